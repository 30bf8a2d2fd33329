/- The abstract machine over this program, part 37: its context: what the library's functions do, and functions of the program at the data of the document's examples. -/
import Derived.Test.YtfnllpibhjikgaaGreatDoorProg
import Derived.Test.YtfnllpibhjikgaaGreatDoorJAm36
import Derived.Test.YtfnllpibhjikgaaGreatDoorJK0
import Derived.KernelRfl
import Derived.Lib.Split
import Derived.Lib.Join
import Derived.Lib.ItoaNum
set_option linter.unusedSimpArgs false
set_option linter.unusedVariables false
namespace Go.Am
open Go Go.Proofs

def digs : Nat → Nat → List UInt8
  | 0, _ => []
  | f + 1, n => match Nat.ble n 9 with
    | true => [UInt8.ofNat (48 + n)]
    | false => digs f (n / 10) ++ [UInt8.ofNat (48 + n % 10)]
/-- strconv.Itoa, of numbers that are not negative -/
noncomputable def itoaSpec : Spec
  | [.int .i64 (.ofNat m)], h => guardB (Nat.ble (m + 1) 1000000000) (some (.ret (.string ⟨⟨digs 9 m⟩⟩) h none))
  | _, _ => none
/-- strings.Split -/
noncomputable def splitSpec : Spec
  | [.string s, .string p], h => guardB (Nat.ble 1 p.size && Nat.ble (s.size + 1) 4294967281)
      (some (.ret (sliceTo 1 (Lib.countB s p + 1) (Lib.countB s p + 1) h.next) (h.alloc (.row ((Lib.splitB p 0 (Lib.countB s p) s).map Value.string) 1 true)) none))
  | _, _ => none
noncomputable def strOf : Value → Option ByteArray
  | .string x => some x
  | _ => none
noncomputable def strsOf (l : List Value) : Option (List ByteArray) := lrec (some []) (fun v _ ih => obind (strOf v) fun x => obind ih fun r => some (x :: r)) l
/-- strings.Join -/
noncomputable def joinSpec : Spec
  | [.slice p n c, .string s], h => guardB (Nat.ble n c && Nat.ble n 140737488355328) (obind (sliceCells h 1 n (.slice p n c)) fun cells => obind (strsOf cells) fun xs =>
      guardB (Nat.ble (Lib.join (xs.map (·.data.toList)) s.data.toList).length 140737488355328) (some (.ret (.string ⟨⟨Lib.join (xs.map (·.data.toList)) s.data.toList⟩⟩) h none)))
  | _, _ => none
/-- where a byte stands -/
noncomputable def idxB (c : Nat) : List UInt8 → Nat → Int := lrec (fun _ => -1) (fun b _ ih k => match Nat.beq b.toNat c with | true => (k : Int) | false => ih (k + 1))
/-- strings.IndexByte -/
noncomputable def indexByteSpec : Spec
  | [.string s, .int .u8 (.ofNat c)], h => guardB (Nat.ble c 255) (some (.ret (.int .i64 (idxB c s.data.toList 0)) h none))
  | _, _ => none

/- HOURS THAT ARE NOTED: the one function that ranges over a map -/
noncomputable def i64Of : Value → Option Int
  | .int .i64 n => some n
  | _ => none
noncomputable def twoOf : List Value → Option (Int × Int)
  | [.int .i64 b, .int .i64 n] => some (b, n)
  | _ => none
noncomputable def natOfI : Int → Option Nat
  | .ofNat n => some n
  | _ => none
/-- a cell of an element of a slice -/
noncomputable def cellAt (h : Heap) (s i j : Nat) : Value → Option Value
  | .slice (some a) n _ => guardB (Nat.ble (i + 1) n) (obind (rowAt h a.block) fun row => lget row (a.off + i * s + j))
  | _ => none
noncomputable def numAt (h : Heap) (s i j : Nat) (v : Value) : Option Int := obind (cellAt h s i j v) i64Of
noncomputable def refusal (l : List UInt8) : Value := .iface 124 (.agg ⟨[mkStr l]⟩)
noncomputable def noneOn (h : Heap) (b : Int) (vs : Value) (es : List MapEntry) : Option Bool :=
  lrec (some true) (fun e _ ih => obind (obind (i64Of e.key) natOfI) fun k => obind (numAt h 5 k 0 vs) fun z => obind ih fun r => some (!(z == b) && r)) es
/-- the entries' stamps are apart, and below the map's clock -/
noncomputable def stampsOK (es : List MapEntry) (c : Nat) : Bool := lrec true (fun e l ih => Nat.ble (e.born + 1) c && (!(l.any fun x => Nat.beq x.born e.born) && ih)) es
noncomputable def noteNo (l : List UInt8) (h : Heap) : Option FRes := some (.panic (refusal l) h)
noncomputable def noteLast (h : Heap) : Bool → Option FRes
  | true => some (.ret (mkTup []) h none)
  | false => noteNo [115, 116, 114, 111, 107, 101, 115] h
noncomputable def noteMore (h : Heap) (row : List Value) (o : Nat) (b n : Int) (i : Nat) : Bool → Option FRes
  | true => obind (lget row (o + 33)) fun vb => obind (numAt h 5 i 2 vb) fun lo => obind (numAt h 5 i 3 vb) fun hi => match decide (lo ≤ n) && decide (n ≤ hi) with
    | true => obind (lget row (o + 17)) fun vs => obind (lget row (o + 38)) fun vm => obind (mapAt h vm) fun m => guardB (stampsOK m.2.1 m.2.2) (obind (noneOn h b vs m.2.1) (noteLast h))
    | false => noteNo [104, 111, 117, 114, 115] h
  | false => noteNo [98, 111, 97, 114, 100] h
noncomputable def noteAt (h : Heap) (row : List Value) (o : Nat) (b n : Int) : Option FRes :=
  obind (natOfI b) fun i => obind (lget row (o + 40)) fun vh => obind (sliceOf vh) fun q => match Nat.ble (i + 1) q.2.1 with
    | true => obind (numAt h 1 i 0 vh) fun x => noteMore h row o b n i (decide (x < 0))
    | false => noteNo [98, 111, 97, 114, 100] h
noncomputable def noteSpec : Spec
  | [.agg cs, .pointer (some a)], h => obind (twoOf cs.toList) fun q => obind (rowAt h a.block) fun row => noteAt h row a.off q.1 q.2
  | _, _ => none

noncomputable def FT : NT Func := NT.ofFn (fun i => Tryz.prog.funcs[i]?) 9
noncomputable def TT : NT TypeInfo := NT.ofFn (fun i => Tryz.prog.types[i]?) 9
/-- types of aggregates that are keys of maps -/
noncomputable def eqTypes (t : Nat) : Bool := Nat.beq t 333 || (Nat.beq t 356 || (Nat.beq t 451 || (Nat.beq t 429 || (Nat.beq t 419 || Nat.beq t 261))))
/-- what the library's functions do, and the one that ranges over a map -/
noncomputable def specs (f : Nat) : Option Spec := match Nat.beq f 95 with | true => some itoaSpec | false => match Nat.beq f 97 with | true => some splitSpec | false => match Nat.beq f 96 with | true => some joinSpec | false => match Nat.beq f 84 with | true => some indexByteSpec | false => match Nat.beq f 377 with | true => some noteSpec | false => none
noncomputable def C0 : Ctx := Ctx.mk Tryz.prog FT TT eqTypes specs
noncomputable def CB : Ctx := Ctx.mk Tryz.prog FT TT eqTypes fun _ => none

/- THE EXAMPLES' DATA -/
noncomputable def plI (l : List Int) (r : DT) : DT := lrec r (fun n _ ih => .pl (.int .i64 n) ih) l
noncomputable def lineA (l : List UInt8) : List (Bool × DT) := [(false, .pl (mkStr l) .nil)]
noncomputable def numsT (l : List Int) : DT := .sl l.length 1 (plI l .nil) .nil
noncomputable def wordR (n : Int) (T : DT) : List (Bool × DT) := [(false, plI [n] .nil), (false, T)]
noncomputable def nilT : DT := .pl (.slice none 0 0) .nil
noncomputable def listT (l : List Int) (r : DT) : DT := match l with | [] => .pl (.slice none 0 0) r | _ :: _ => .sl l.length 1 (plI l .nil) r
noncomputable def listsT (l : List (List Int)) : DT := lrec .nil (fun x _ ih => listT x ih) l
/-- a suite, with a width of its front, coats, spots, a stock -/
noncomputable def suiteG (wide : Int) (dry : List Int) (spots : List (List Int)) (stock : List Int) (r : DT) : DT := (.sl 3 1 (plI [6, 4, 8] .nil) (.sl 2 4 (plI [0, 1, 1, 3, 2, 0, 0, 2] .nil) (plI [2, 4, 5, 8, 3] (.sl 2 3 (.sl 3 1 (plI [2, 0, 1] .nil) (.pl (.slice none 0 0) (.pl (.bool false) (.sl 2 1 (plI [0, 2] .nil) (.sl 1 1 (plI [1] .nil) (.pl (.bool true) .nil)))))) (.pl (.int .i64 wide) (plI [2] (.sl 8 2 (plI dry .nil) (.sl 8 1 (plI [0, 1, 2, 3, 4, 5, 6, 7] .nil) (.sl 3 2 (plI [9, 20, 10, 20, 8, 30] .nil) (plI [4] (.sl spots.length 1 (listsT spots) (plI [1] (.sl 2 1 (plI [5, 6] .nil) (.sl 4 5 (plI [1] (.pl (.bool true) (plI [2, 2] (.pl (.slice none 0 0) (plI [0] (.pl (.bool false) (plI [2, 3] (.pl (.slice none 0 0) (plI [0] (.pl (.bool true) (plI [1, 2] (.sl 1 1 (plI [1] .nil) (plI [1] (.pl (.bool false) (plI [1, 3] (.sl 1 1 (plI [0] .nil) .nil)))))))))))))))) (plI [60, 40, 20, 1, 2, 1, 1, 0, 0, 5, 5, 5] (.sl 3 6 (plI [80, 82, 20, 20, 0, 2, 20, 22, 60, 60, 40, 40, 50, 50, 10, 12, 30, 30] .nil) (listT stock (.sl 2 1 (plI [0, 25] .nil) (.sl 2 5 (plI [7, 10, 3, 4, 0, 5, 6, 2, 2, 1] .nil) (.sl 3 5 (plI [1, 5, 3, 3] (.pl (.bool true) (plI [2, 5, 4, 1] (.pl (.bool false) (plI [3, 4, 1, 2] (.pl (.bool true) .nil)))))) r))))))))))))))))))))
noncomputable def suiteT : DT := suiteG 21 [6, 8, 4, 6, 8, 10, 2, 4, 6, 6, 5, 9, 8, 12, 4, 4] [[0, 1], [2, 1], [2, 3]] [5, 5, 5] .nil
noncomputable def entT (l : List (Int × List Int)) : DT := lrec .nil (fun e _ ih => .pl (.int .i64 e.1) (listT e.2 ih)) l
noncomputable def deskA (l : List (Int × List Int)) : List (Bool × DT) := [(false, .pt 37 (.pl (.bool true) (suiteG 21 [6, 8, 4, 6, 8, 10, 2, 4, 6, 6, 5, 9, 8, 12, 4, 4] [[0, 1], [2, 1], [2, 3]] [5, 5, 5] (match l with | [] => .pl (.slice none 0 0) .nil | _ :: _ => .sl l.length 2 (entT l) .nil))) .nil)]
noncomputable def leftE (l : List Nat) : List (Value × Value × Nat) := l.map fun n => (.int .i64 (Int.ofNat n), .bool true, n)
noncomputable def stateR (wide : Int) (dry : List Int) (spots : List (List Int)) (stock : List Int) (day : Int) (plan : List Int) (laid : Int) (left : List Nat) (hands hours : List Int) (tariff : Int) (paid stands : List Int) : List (Bool × DT) :=
  [(false, .pt 44 (suiteG wide dry spots stock (plI [day] (listT plan (plI [laid] (.mp (leftE left) 4 (listT hands (listT hours (plI [tariff] (listT paid (listT stands .nil)))))))))) .nil)]
noncomputable def benchBest0A : List (Bool × DT) := [(true, (plI [1] (.sl 2 1 (plI [5, 6] .nil) (.sl 4 5 (plI [1] (.pl (.bool true) (plI [2, 2] (.pl (.slice none 0 0) (plI [0] (.pl (.bool false) (plI [2, 3] (.pl (.slice none 0 0) (plI [0] (.pl (.bool true) (plI [1, 2] (.sl 1 1 (plI [1] .nil) (plI [1] (.pl (.bool false) (plI [1, 3] (.sl 1 1 (plI [0] .nil) .nil)))))))))))))))) .nil))))]
noncomputable def benchBest0R : List (Bool × DT) := [(false, (.sl 4 1 (plI [0, 1, 0, 1] .nil) .nil)), (false, (plI [6] .nil)), (false, (plI [0] .nil))]
noncomputable def benchBestSpec : Spec := closedSpec benchBest0A benchBest0R noSpec
noncomputable def benchCheck0A : List (Bool × DT) := [(true, (plI [1] (.sl 2 1 (plI [5, 6] .nil) (.sl 4 5 (plI [1] (.pl (.bool true) (plI [2, 2] (.pl (.slice none 0 0) (plI [0] (.pl (.bool false) (plI [2, 3] (.pl (.slice none 0 0) (plI [0] (.pl (.bool true) (plI [1, 2] (.sl 1 1 (plI [1] .nil) (plI [1] (.pl (.bool false) (plI [1, 3] (.sl 1 1 (plI [0] .nil) .nil)))))))))))))))) .nil))))]
noncomputable def benchCheck0R : List (Bool × DT) := [(false, (plI [0] .nil))]
noncomputable def benchCheckSpec : Spec := closedSpec benchCheck0A benchCheck0R noSpec
noncomputable def benchEnds0A : List (Bool × DT) := [(true, (plI [1] (.sl 2 1 (plI [5, 6] .nil) (.sl 4 5 (plI [1] (.pl (.bool true) (plI [2, 2] (.pl (.slice none 0 0) (plI [0] (.pl (.bool false) (plI [2, 3] (.pl (.slice none 0 0) (plI [0] (.pl (.bool true) (plI [1, 2] (.sl 1 1 (plI [1] .nil) (plI [1] (.pl (.bool false) (plI [1, 3] (.sl 1 1 (plI [0] .nil) .nil)))))))))))))))) .nil)))), (false, (.sl 4 1 (plI [0, 1, 0, 1] .nil) .nil))]
noncomputable def benchEnds0R : List (Bool × DT) := [(false, (.sl 4 2 (plI [2, 2, 2, 3, 3, 5, 3, 6] .nil) .nil)), (false, (plI [0] .nil))]
noncomputable def benchEndsSpec : Spec := closedSpec benchEnds0A benchEnds0R noSpec
noncomputable def coatFirst0A : List (Bool × DT) := [(true, (.sl 8 2 (plI [6, 8, 4, 6, 8, 10, 2, 4, 6, 6, 5, 9, 8, 12, 4, 4] .nil) (.sl 8 1 (plI [0, 1, 2, 3, 4, 5, 6, 7] .nil) (.sl 3 2 (plI [9, 20, 10, 20, 8, 30] .nil) .nil))))]
noncomputable def coatFirst0R : List (Bool × DT) := [(false, (.sl 3 1 (plI [0, 2, 4] .nil) .nil)), (false, (plI [0] .nil))]
noncomputable def coatFirstSpec : Spec := closedSpec coatFirst0A coatFirst0R noSpec
noncomputable def coatMend0A : List (Bool × DT) := [(true, (.sl 8 2 (plI [6, 8, 4, 6, 8, 10, 0, 4, 9, 9, 5, 9, 8, 12, 4, 4] .nil) (.sl 8 1 (plI [0, 1, 2, 3, 4, 5, 6, 7] .nil) (.sl 3 2 (plI [9, 20, 10, 20, 8, 30] .nil) .nil)))), (false, (.sl 3 1 (plI [0, 2, 5] .nil) .nil)), (false, (plI [3] .nil))]
noncomputable def coatMend0R : List (Bool × DT) := [(false, (.pl (.slice none 0 0) .nil)), (false, (plI [0] .nil)), (false, (plI [5] .nil))]
noncomputable def coatMend1A : List (Bool × DT) := [(true, (.sl 8 2 (plI [6, 8, 4, 6, 8, 10, 0, 4, 6, 6, 5, 9, 8, 12, 4, 4] .nil) (.sl 8 1 (plI [0, 1, 2, 3, 4, 5, 6, 7] .nil) (.sl 3 2 (plI [9, 20, 10, 20, 8, 30] .nil) .nil)))), (false, (.sl 3 1 (plI [0, 2, 4] .nil) .nil)), (false, (plI [2] .nil))]
noncomputable def coatMend1R : List (Bool × DT) := [(false, (.sl 3 1 (plI [0, 2, 5] .nil) .nil)), (false, (plI [1] .nil)), (false, (plI [0] .nil))]
noncomputable def coatMendSpec : Spec := closedSpec coatMend0A coatMend0R (closedSpec coatMend1A coatMend1R noSpec)
noncomputable def daybookown0A : List (Bool × DT) := [(true, suiteT)]
noncomputable def daybookown0R : List (Bool × DT) := [(true, suiteT)]
noncomputable def daybookownSpec : Spec := closedSpec daybookown0A daybookown0R noSpec
noncomputable def daybookparted0A : List (Bool × DT) := lineA [99, 111, 97, 116]
noncomputable def daybookparted0R : List (Bool × DT) := wordR 1 nilT
noncomputable def daybookparted1A : List (Bool × DT) := lineA [98, 101, 102, 111, 114, 101, 32, 48, 32, 50]
noncomputable def daybookparted1R : List (Bool × DT) := wordR 18 (numsT [0, 2])
noncomputable def daybookparted2A : List (Bool × DT) := lineA [115, 116, 111, 99, 107, 32, 48]
noncomputable def daybookparted2R : List (Bool × DT) := wordR 19 (numsT [0])
noncomputable def daybookparted3A : List (Bool × DT) := lineA [115, 101, 116]
noncomputable def daybookparted3R : List (Bool × DT) := wordR 14 nilT
noncomputable def daybookparted4A : List (Bool × DT) := lineA [114, 101, 97, 100, 121]
noncomputable def daybookparted4R : List (Bool × DT) := wordR 22 nilT
noncomputable def daybookparted5A : List (Bool × DT) := lineA [112, 97, 105, 100, 32, 48]
noncomputable def daybookparted5R : List (Bool × DT) := wordR 26 (numsT [0])
noncomputable def daybookparted6A : List (Bool × DT) := lineA [112, 108, 97, 110]
noncomputable def daybookparted6R : List (Bool × DT) := wordR 15 nilT
noncomputable def daybookparted7A : List (Bool × DT) := lineA [111, 119, 101, 115, 32, 48]
noncomputable def daybookparted7R : List (Bool × DT) := wordR 25 (numsT [0])
noncomputable def daybookparted8A : List (Bool × DT) := lineA [111, 114, 100, 101, 114]
noncomputable def daybookparted8R : List (Bool × DT) := wordR 17 nilT
noncomputable def daybookparted9A : List (Bool × DT) := lineA [101, 110, 100, 115]
noncomputable def daybookparted9R : List (Bool × DT) := wordR 23 nilT
noncomputable def daybookparted10A : List (Bool × DT) := lineA [98, 101, 115, 116]
noncomputable def daybookparted10R : List (Bool × DT) := wordR 24 nilT
noncomputable def daybookparted11A : List (Bool × DT) := lineA [119, 97, 105, 116, 32, 51]
noncomputable def daybookparted11R : List (Bool × DT) := wordR 0 (numsT [3])
noncomputable def daybookparted12A : List (Bool × DT) := lineA [119, 97, 105, 116, 32, 50]
noncomputable def daybookparted12R : List (Bool × DT) := wordR 0 (numsT [2])
noncomputable def daybookparted13A : List (Bool × DT) := lineA [119, 111, 114, 100, 32, 49, 32, 49, 32, 48]
noncomputable def daybookparted13R : List (Bool × DT) := wordR 20 (numsT [1, 1, 0])
noncomputable def daybookparted14A : List (Bool × DT) := lineA [115, 97, 109, 101, 32, 48, 32, 49]
noncomputable def daybookparted14R : List (Bool × DT) := wordR 27 (numsT [0, 1])
noncomputable def daybookparted15A : List (Bool × DT) := lineA [115, 116, 97, 110, 100, 115]
noncomputable def daybookparted15R : List (Bool × DT) := wordR 28 nilT
noncomputable def daybookparted16A : List (Bool × DT) := lineA [111, 119, 101, 115, 32, 49]
noncomputable def daybookparted16R : List (Bool × DT) := wordR 25 (numsT [1])
noncomputable def daybookparted17A : List (Bool × DT) := lineA [108, 97, 105, 100]
noncomputable def daybookparted17R : List (Bool × DT) := wordR 16 nilT
noncomputable def daybookparted18A : List (Bool × DT) := lineA [104, 97, 110, 100, 32, 50]
noncomputable def daybookparted18R : List (Bool × DT) := wordR 21 (numsT [2])
noncomputable def daybookparted19A : List (Bool × DT) := lineA [104, 97, 110, 100, 32, 49]
noncomputable def daybookparted19R : List (Bool × DT) := wordR 21 (numsT [1])
noncomputable def daybookparted20A : List (Bool × DT) := lineA [104, 111, 117, 114, 115, 32, 49, 32, 50]
noncomputable def daybookparted20R : List (Bool × DT) := wordR 8 (numsT [1, 2])
noncomputable def daybookparted21A : List (Bool × DT) := lineA [100, 97, 121]
noncomputable def daybookparted21R : List (Bool × DT) := wordR 13 nilT
noncomputable def daybookparted22A : List (Bool × DT) := lineA [100, 111, 110, 101, 32, 50]
noncomputable def daybookparted22R : List (Bool × DT) := wordR 7 (numsT [2])
noncomputable def daybookparted23A : List (Bool × DT) := lineA [119, 97, 105, 116, 32, 49]
noncomputable def daybookparted23R : List (Bool × DT) := wordR 0 (numsT [1])
noncomputable def daybookparted24A : List (Bool × DT) := lineA [117, 110, 100, 111]
noncomputable def daybookparted24R : List (Bool × DT) := wordR 12 nilT
noncomputable def daybookparted25A : List (Bool × DT) := lineA [115, 112, 111, 116, 32, 50, 32, 48]
noncomputable def daybookparted25R : List (Bool × DT) := wordR 3 (numsT [2, 0])
noncomputable def daybookparted26A : List (Bool × DT) := lineA [115, 112, 111, 116, 32, 48, 32, 50]
noncomputable def daybookparted26R : List (Bool × DT) := wordR 3 (numsT [0, 2])
noncomputable def daybookparted27A : List (Bool × DT) := lineA [112, 97, 121, 32, 48, 32, 49]
noncomputable def daybookparted27R : List (Bool × DT) := wordR 10 (numsT [0, 1])
noncomputable def daybookparted28A : List (Bool × DT) := lineA [112, 97, 121, 32, 48, 32, 49, 51]
noncomputable def daybookparted28R : List (Bool × DT) := wordR 10 (numsT [0, 13])
noncomputable def daybookparted29A : List (Bool × DT) := lineA [109, 105, 120, 32, 51, 32, 50, 32, 48]
noncomputable def daybookparted29R : List (Bool × DT) := wordR 4 (numsT [3, 2, 0])
noncomputable def daybookparted30A : List (Bool × DT) := lineA [109, 105, 120, 32, 50, 32, 50, 32, 48]
noncomputable def daybookparted30R : List (Bool × DT) := wordR 4 (numsT [2, 2, 0])
noncomputable def daybookparted31A : List (Bool × DT) := lineA [109, 105, 120, 32, 49, 32, 50, 32, 48]
noncomputable def daybookparted31R : List (Bool × DT) := wordR 4 (numsT [1, 2, 0])
noncomputable def daybookparted32A : List (Bool × DT) := lineA [109, 105, 120, 32, 49, 32, 49, 32, 48]
noncomputable def daybookparted32R : List (Bool × DT) := wordR 4 (numsT [1, 1, 0])
noncomputable def daybookparted33A : List (Bool × DT) := lineA [104, 111, 117, 114, 115, 32, 48, 32, 51]
noncomputable def daybookparted33R : List (Bool × DT) := wordR 8 (numsT [0, 3])
noncomputable def daybookparted34A : List (Bool × DT) := lineA [103, 105, 118, 101, 32, 51, 32, 49]
noncomputable def daybookparted34R : List (Bool × DT) := wordR 6 (numsT [3, 1])
noncomputable def daybookparted35A : List (Bool × DT) := lineA [103, 105, 118, 101, 32, 50, 32, 49]
noncomputable def daybookparted35R : List (Bool × DT) := wordR 6 (numsT [2, 1])
noncomputable def daybookparted36A : List (Bool × DT) := lineA [103, 105, 118, 101, 32, 50, 32, 48]
noncomputable def daybookparted36R : List (Bool × DT) := wordR 6 (numsT [2, 0])
noncomputable def daybookparted37A : List (Bool × DT) := lineA [103, 105, 118, 101, 32, 49, 32, 49]
noncomputable def daybookparted37R : List (Bool × DT) := wordR 6 (numsT [1, 1])
noncomputable def daybookparted38A : List (Bool × DT) := lineA [103, 105, 118, 101, 32, 48, 32, 48]
noncomputable def daybookparted38R : List (Bool × DT) := wordR 6 (numsT [0, 0])
noncomputable def daybookparted39A : List (Bool × DT) := lineA [102, 114, 111, 110, 116, 32, 49, 57]
noncomputable def daybookparted39R : List (Bool × DT) := wordR 11 (numsT [19])
noncomputable def daybookparted40A : List (Bool × DT) := lineA [102, 114, 111, 110, 116, 32, 49, 56]
noncomputable def daybookparted40R : List (Bool × DT) := wordR 11 (numsT [18])
noncomputable def daybookparted41A : List (Bool × DT) := lineA [102, 105, 108, 108, 32, 48, 32, 57]
noncomputable def daybookparted41R : List (Bool × DT) := wordR 5 (numsT [0, 9])
noncomputable def daybookparted42A : List (Bool × DT) := lineA [102, 105, 108, 108, 32, 48, 32, 51, 49]
noncomputable def daybookparted42R : List (Bool × DT) := wordR 5 (numsT [0, 31])
noncomputable def daybookparted43A : List (Bool × DT) := lineA [100, 114, 121, 32, 52, 32, 57, 32, 57]
noncomputable def daybookparted43R : List (Bool × DT) := wordR 2 (numsT [4, 9, 9])
noncomputable def daybookparted44A : List (Bool × DT) := lineA [100, 114, 121, 32, 51, 32, 48, 32, 52]
noncomputable def daybookparted44R : List (Bool × DT) := wordR 2 (numsT [3, 0, 4])
noncomputable def daybookparted45A : List (Bool × DT) := lineA [100, 114, 121, 32, 50, 32, 56, 32, 56]
noncomputable def daybookparted45R : List (Bool × DT) := wordR 2 (numsT [2, 8, 8])
noncomputable def daybookparted46A : List (Bool × DT) := lineA [100, 111, 110, 101, 32, 51]
noncomputable def daybookparted46R : List (Bool × DT) := wordR 7 (numsT [3])
noncomputable def daybookparted47A : List (Bool × DT) := lineA [100, 111, 110, 101, 32, 49]
noncomputable def daybookparted47R : List (Bool × DT) := wordR 7 (numsT [1])
noncomputable def daybookparted48A : List (Bool × DT) := lineA [100, 111, 110, 101, 32, 48]
noncomputable def daybookparted48R : List (Bool × DT) := wordR 7 (numsT [0])
noncomputable def daybookparted49A : List (Bool × DT) := lineA [100, 101, 97, 108, 32, 49]
noncomputable def daybookparted49R : List (Bool × DT) := wordR 9 (numsT [1])
noncomputable def daybookpartedSpec : Spec := closedSpec daybookparted0A daybookparted0R (closedSpec daybookparted1A daybookparted1R (closedSpec daybookparted2A daybookparted2R (closedSpec daybookparted3A daybookparted3R (closedSpec daybookparted4A daybookparted4R (closedSpec daybookparted5A daybookparted5R (closedSpec daybookparted6A daybookparted6R (closedSpec daybookparted7A daybookparted7R (closedSpec daybookparted8A daybookparted8R (closedSpec daybookparted9A daybookparted9R (closedSpec daybookparted10A daybookparted10R (closedSpec daybookparted11A daybookparted11R (closedSpec daybookparted12A daybookparted12R (closedSpec daybookparted13A daybookparted13R (closedSpec daybookparted14A daybookparted14R (closedSpec daybookparted15A daybookparted15R (closedSpec daybookparted16A daybookparted16R (closedSpec daybookparted17A daybookparted17R (closedSpec daybookparted18A daybookparted18R (closedSpec daybookparted19A daybookparted19R (closedSpec daybookparted20A daybookparted20R (closedSpec daybookparted21A daybookparted21R (closedSpec daybookparted22A daybookparted22R (closedSpec daybookparted23A daybookparted23R (closedSpec daybookparted24A daybookparted24R (closedSpec daybookparted25A daybookparted25R (closedSpec daybookparted26A daybookparted26R (closedSpec daybookparted27A daybookparted27R (closedSpec daybookparted28A daybookparted28R (closedSpec daybookparted29A daybookparted29R (closedSpec daybookparted30A daybookparted30R (closedSpec daybookparted31A daybookparted31R (closedSpec daybookparted32A daybookparted32R (closedSpec daybookparted33A daybookparted33R (closedSpec daybookparted34A daybookparted34R (closedSpec daybookparted35A daybookparted35R (closedSpec daybookparted36A daybookparted36R (closedSpec daybookparted37A daybookparted37R (closedSpec daybookparted38A daybookparted38R (closedSpec daybookparted39A daybookparted39R (closedSpec daybookparted40A daybookparted40R (closedSpec daybookparted41A daybookparted41R (closedSpec daybookparted42A daybookparted42R (closedSpec daybookparted43A daybookparted43R (closedSpec daybookparted44A daybookparted44R (closedSpec daybookparted45A daybookparted45R (closedSpec daybookparted46A daybookparted46R (closedSpec daybookparted47A daybookparted47R (closedSpec daybookparted48A daybookparted48R (closedSpec daybookparted49A daybookparted49R noSpec)))))))))))))))))))))))))))))))))))))))))))))))))
noncomputable def daybookstands0A : List (Bool × DT) := deskA [(2, []), (1, [2]), (3, [3, 0, 4]), (2, []), (1, [3]), (2, []), (1, [2]), (4, [2, 0])]
noncomputable def daybookstands0R : List (Bool × DT) := stateR 21 [6, 8, 4, 6, 8, 10, 0, 4, 6, 6, 5, 9, 8, 12, 4, 4] [[0, 1], [2, 1], [2, 3], [2, 0]] [5, 5, 5] 7 [0, 2, 5] 3 [0, 1, 2, 3] [-1, -1, -1, -1] [-1, -1] (-1) [0, 0] [0, 1, 2, 3, 4, 5, 6, 7]
noncomputable def daybookstands1A : List (Bool × DT) := deskA []
noncomputable def daybookstands1R : List (Bool × DT) := stateR 21 [6, 8, 4, 6, 8, 10, 2, 4, 6, 6, 5, 9, 8, 12, 4, 4] [[0, 1], [2, 1], [2, 3]] [5, 5, 5] 0 [0, 2, 4] 0 [0, 1, 2, 3] [-1, -1, -1, -1] [-1, -1] (-1) [0, 0] []
noncomputable def daybookstands2A : List (Bool × DT) := deskA [(2, []), (1, [2]), (3, [3, 0, 4]), (2, []), (1, [3]), (2, []), (1, [2])]
noncomputable def daybookstands2R : List (Bool × DT) := stateR 21 [6, 8, 4, 6, 8, 10, 0, 4, 6, 6, 5, 9, 8, 12, 4, 4] [[0, 1], [2, 1], [2, 3]] [5, 5, 5] 7 [0, 2, 5] 3 [0, 1, 2, 3] [-1, -1, -1, -1] [-1, -1] (-1) [0, 0] [0, 1, 2, 3, 4, 5, 6]
noncomputable def daybookstands3A : List (Bool × DT) := deskA [(7, [2, 0]), (7, [1, 1]), (8, [1]), (8, [2]), (9, [0, 3]), (7, [0, 0]), (8, [0]), (7, [3, 1]), (8, [3]), (9, [1, 2]), (10, [1]), (11, [0, 13])]
noncomputable def daybookstands3R : List (Bool × DT) := stateR 21 [6, 8, 4, 6, 8, 10, 2, 4, 6, 6, 5, 9, 8, 12, 4, 4] [[0, 1], [2, 1], [2, 3]] [5, 5, 5] 0 [0, 2, 4] 0 [] [0, 1, 0, 1] [3, 2] 1 [13, 0] [0, 1, 2, 3, 4, 5, 6, 7, 8, 9, 10, 11]
noncomputable def daybookstands4A : List (Bool × DT) := deskA [(2, []), (1, [2]), (3, [3, 0, 4]), (2, []), (1, [3]), (2, []), (1, [2]), (4, [2, 0]), (5, [1, 1, 0]), (5, [3, 2, 0]), (6, [0, 9])]
noncomputable def daybookstands4R : List (Bool × DT) := stateR 21 [6, 8, 4, 6, 8, 10, 0, 4, 6, 6, 5, 9, 8, 12, 4, 4] [[0, 1], [2, 1], [2, 3], [2, 0]] [10, 2, 5] 7 [0, 2, 5] 3 [0, 1, 2, 3] [-1, -1, -1, -1] [-1, -1] (-1) [0, 0] [0, 1, 2, 3, 4, 5, 6, 7, 8, 9, 10]
noncomputable def daybookstands5A : List (Bool × DT) := deskA [(7, [2, 0])]
noncomputable def daybookstands5R : List (Bool × DT) := stateR 21 [6, 8, 4, 6, 8, 10, 2, 4, 6, 6, 5, 9, 8, 12, 4, 4] [[0, 1], [2, 1], [2, 3]] [5, 5, 5] 0 [0, 2, 4] 0 [0, 1, 2, 3] [-1, -1, 0, -1] [-1, -1] (-1) [0, 0] [0]
noncomputable def daybookstands6A : List (Bool × DT) := deskA [(2, []), (1, [2]), (3, [3, 0, 4]), (2, []), (1, [3]), (2, [])]
noncomputable def daybookstands6R : List (Bool × DT) := stateR 21 [6, 8, 4, 6, 8, 10, 0, 4, 6, 6, 5, 9, 8, 12, 4, 4] [[0, 1], [2, 1], [2, 3]] [5, 5, 5] 5 [0, 2, 5] 3 [0, 1, 2, 3] [-1, -1, -1, -1] [-1, -1] (-1) [0, 0] [0, 1, 2, 3, 4, 5]
noncomputable def daybookstands7A : List (Bool × DT) := deskA [(7, [2, 0]), (7, [1, 1]), (8, [1]), (8, [2]), (9, [0, 3])]
noncomputable def daybookstands7R : List (Bool × DT) := stateR 21 [6, 8, 4, 6, 8, 10, 2, 4, 6, 6, 5, 9, 8, 12, 4, 4] [[0, 1], [2, 1], [2, 3]] [5, 5, 5] 0 [0, 2, 4] 0 [0, 3] [-1, 1, 0, -1] [3, -1] (-1) [0, 0] [0, 1, 2, 3, 4]
noncomputable def daybookstands8A : List (Bool × DT) := deskA [(2, []), (1, [2]), (3, [3, 0, 4]), (2, [])]
noncomputable def daybookstands8R : List (Bool × DT) := stateR 21 [6, 8, 4, 6, 8, 10, 0, 4, 6, 6, 5, 9, 8, 12, 4, 4] [[0, 1], [2, 1], [2, 3]] [5, 5, 5] 2 [0, 2, 5] 2 [0, 1, 2, 3] [-1, -1, -1, -1] [-1, -1] (-1) [0, 0] [0, 1, 2, 3]
noncomputable def daybookstands9A : List (Bool × DT) := deskA [(7, [2, 0]), (7, [1, 1]), (8, [1]), (8, [2]), (9, [0, 3]), (7, [0, 0]), (8, [0]), (7, [3, 1]), (8, [3]), (9, [1, 2]), (10, [1])]
noncomputable def daybookstands9R : List (Bool × DT) := stateR 21 [6, 8, 4, 6, 8, 10, 2, 4, 6, 6, 5, 9, 8, 12, 4, 4] [[0, 1], [2, 1], [2, 3]] [5, 5, 5] 0 [0, 2, 4] 0 [] [0, 1, 0, 1] [3, 2] 1 [0, 0] [0, 1, 2, 3, 4, 5, 6, 7, 8, 9, 10]
noncomputable def daybookstands10A : List (Bool × DT) := deskA [(2, []), (1, [2]), (3, [3, 0, 4]), (2, []), (1, [3]), (2, []), (1, [2]), (4, [2, 0]), (5, [1, 1, 0]), (5, [3, 2, 0])]
noncomputable def daybookstands10R : List (Bool × DT) := stateR 21 [6, 8, 4, 6, 8, 10, 0, 4, 6, 6, 5, 9, 8, 12, 4, 4] [[0, 1], [2, 1], [2, 3], [2, 0]] [1, 2, 5] 7 [0, 2, 5] 3 [0, 1, 2, 3] [-1, -1, -1, -1] [-1, -1] (-1) [0, 0] [0, 1, 2, 3, 4, 5, 6, 7, 8, 9]
noncomputable def daybookstands11A : List (Bool × DT) := deskA [(7, [2, 0]), (7, [1, 1]), (8, [1]), (8, [2]), (9, [0, 3]), (7, [0, 0]), (8, [0]), (7, [3, 1]), (8, [3])]
noncomputable def daybookstands11R : List (Bool × DT) := stateR 21 [6, 8, 4, 6, 8, 10, 2, 4, 6, 6, 5, 9, 8, 12, 4, 4] [[0, 1], [2, 1], [2, 3]] [5, 5, 5] 0 [0, 2, 4] 0 [] [0, 1, 0, 1] [3, -1] (-1) [0, 0] [0, 1, 2, 3, 4, 5, 6, 7, 8]
noncomputable def daybookstands12A : List (Bool × DT) := deskA [(2, []), (1, [2]), (3, [3, 0, 4]), (2, []), (1, [3]), (2, []), (1, [2]), (4, [2, 0]), (5, [1, 1, 0])]
noncomputable def daybookstands12R : List (Bool × DT) := stateR 21 [6, 8, 4, 6, 8, 10, 0, 4, 6, 6, 5, 9, 8, 12, 4, 4] [[0, 1], [2, 1], [2, 3], [2, 0]] [4, 4, 5] 7 [0, 2, 5] 3 [0, 1, 2, 3] [-1, -1, -1, -1] [-1, -1] (-1) [0, 0] [0, 1, 2, 3, 4, 5, 6, 7, 8]
noncomputable def daybookstands13A : List (Bool × DT) := deskA [(7, [2, 0]), (7, [1, 1]), (8, [1]), (8, [2]), (9, [0, 3]), (7, [0, 0])]
noncomputable def daybookstands13R : List (Bool × DT) := stateR 21 [6, 8, 4, 6, 8, 10, 2, 4, 6, 6, 5, 9, 8, 12, 4, 4] [[0, 1], [2, 1], [2, 3]] [5, 5, 5] 0 [0, 2, 4] 0 [0, 3] [0, 1, 0, -1] [3, -1] (-1) [0, 0] [0, 1, 2, 3, 4, 5]
noncomputable def daybookstands14A : List (Bool × DT) := deskA [(7, [2, 0]), (7, [1, 1]), (8, [1])]
noncomputable def daybookstands14R : List (Bool × DT) := stateR 21 [6, 8, 4, 6, 8, 10, 2, 4, 6, 6, 5, 9, 8, 12, 4, 4] [[0, 1], [2, 1], [2, 3]] [5, 5, 5] 0 [0, 2, 4] 0 [0, 2, 3] [-1, 1, 0, -1] [-1, -1] (-1) [0, 0] [0, 1, 2]
noncomputable def daybookstands15A : List (Bool × DT) := deskA [(2, []), (1, [2]), (3, [3, 0, 4])]
noncomputable def daybookstands15R : List (Bool × DT) := stateR 21 [6, 8, 4, 6, 8, 10, 0, 4, 6, 6, 5, 9, 8, 12, 4, 4] [[0, 1], [2, 1], [2, 3]] [5, 5, 5] 2 [0, 2, 5] 1 [0, 1, 2, 3] [-1, -1, -1, -1] [-1, -1] (-1) [0, 0] [0, 1, 2]
noncomputable def daybookstands16A : List (Bool × DT) := deskA [(7, [2, 0]), (7, [1, 1])]
noncomputable def daybookstands16R : List (Bool × DT) := stateR 21 [6, 8, 4, 6, 8, 10, 2, 4, 6, 6, 5, 9, 8, 12, 4, 4] [[0, 1], [2, 1], [2, 3]] [5, 5, 5] 0 [0, 2, 4] 0 [0, 1, 2, 3] [-1, 1, 0, -1] [-1, -1] (-1) [0, 0] [0, 1]
noncomputable def daybookstands17A : List (Bool × DT) := deskA [(2, []), (1, [2])]
noncomputable def daybookstands17R : List (Bool × DT) := stateR 21 [6, 8, 4, 6, 8, 10, 2, 4, 6, 6, 5, 9, 8, 12, 4, 4] [[0, 1], [2, 1], [2, 3]] [5, 5, 5] 2 [0, 2, 4] 1 [0, 1, 2, 3] [-1, -1, -1, -1] [-1, -1] (-1) [0, 0] [0, 1]
noncomputable def daybookstands18A : List (Bool × DT) := deskA [(2, []), (1, [2]), (3, [3, 0, 4]), (2, []), (1, [3]), (2, []), (1, [2]), (4, [2, 0]), (5, [1, 1, 0]), (5, [3, 2, 0]), (6, [0, 9]), (12, [19])]
noncomputable def daybookstands18R : List (Bool × DT) := stateR 19 [6, 8, 4, 6, 8, 10, 0, 4, 6, 6, 5, 9, 8, 12, 4, 4] [[0, 1], [2, 1], [2, 3], [2, 0]] [10, 2, 5] 7 [0, 2, 5] 3 [0, 1, 2, 3] [-1, -1, -1, -1] [-1, -1] (-1) [0, 0] [0, 1, 2, 3, 4, 5, 6, 7, 8, 9, 10, 11]
noncomputable def daybookstands19A : List (Bool × DT) := deskA [(7, [2, 0]), (7, [1, 1]), (8, [1]), (8, [2]), (9, [0, 3]), (7, [0, 0]), (8, [0]), (7, [3, 1]), (8, [3]), (9, [1, 2])]
noncomputable def daybookstands19R : List (Bool × DT) := stateR 21 [6, 8, 4, 6, 8, 10, 2, 4, 6, 6, 5, 9, 8, 12, 4, 4] [[0, 1], [2, 1], [2, 3]] [5, 5, 5] 0 [0, 2, 4] 0 [] [0, 1, 0, 1] [3, 2] (-1) [0, 0] [0, 1, 2, 3, 4, 5, 6, 7, 8, 9]
noncomputable def daybookstands20A : List (Bool × DT) := deskA [(2, [])]
noncomputable def daybookstands20R : List (Bool × DT) := stateR 21 [6, 8, 4, 6, 8, 10, 2, 4, 6, 6, 5, 9, 8, 12, 4, 4] [[0, 1], [2, 1], [2, 3]] [5, 5, 5] 0 [0, 2, 4] 1 [0, 1, 2, 3] [-1, -1, -1, -1] [-1, -1] (-1) [0, 0] [0]
noncomputable def daybookstands21A : List (Bool × DT) := deskA [(7, [2, 0]), (7, [1, 1]), (8, [1]), (8, [2]), (9, [0, 3]), (7, [0, 0]), (8, [0]), (7, [3, 1])]
noncomputable def daybookstands21R : List (Bool × DT) := stateR 21 [6, 8, 4, 6, 8, 10, 2, 4, 6, 6, 5, 9, 8, 12, 4, 4] [[0, 1], [2, 1], [2, 3]] [5, 5, 5] 0 [0, 2, 4] 0 [3] [0, 1, 0, 1] [3, -1] (-1) [0, 0] [0, 1, 2, 3, 4, 5, 6, 7]
noncomputable def daybookstands22A : List (Bool × DT) := deskA [(7, [2, 0]), (7, [1, 1]), (8, [1]), (8, [2]), (9, [0, 3]), (7, [0, 0]), (8, [0])]
noncomputable def daybookstands22R : List (Bool × DT) := stateR 21 [6, 8, 4, 6, 8, 10, 2, 4, 6, 6, 5, 9, 8, 12, 4, 4] [[0, 1], [2, 1], [2, 3]] [5, 5, 5] 0 [0, 2, 4] 0 [3] [0, 1, 0, -1] [3, -1] (-1) [0, 0] [0, 1, 2, 3, 4, 5, 6]
noncomputable def daybookstands23A : List (Bool × DT) := deskA [(2, []), (1, [2]), (3, [3, 0, 4]), (2, []), (1, [3])]
noncomputable def daybookstands23R : List (Bool × DT) := stateR 21 [6, 8, 4, 6, 8, 10, 0, 4, 6, 6, 5, 9, 8, 12, 4, 4] [[0, 1], [2, 1], [2, 3]] [5, 5, 5] 5 [0, 2, 5] 2 [0, 1, 2, 3] [-1, -1, -1, -1] [-1, -1] (-1) [0, 0] [0, 1, 2, 3, 4]
noncomputable def daybookstands24A : List (Bool × DT) := deskA [(7, [2, 0]), (7, [1, 1]), (8, [1]), (8, [2])]
noncomputable def daybookstands24R : List (Bool × DT) := stateR 21 [6, 8, 4, 6, 8, 10, 2, 4, 6, 6, 5, 9, 8, 12, 4, 4] [[0, 1], [2, 1], [2, 3]] [5, 5, 5] 0 [0, 2, 4] 0 [0, 3] [-1, 1, 0, -1] [-1, -1] (-1) [0, 0] [0, 1, 2, 3]
noncomputable def daybookstands25A : List (Bool × DT) := deskA [(7, [2, 0]), (7, [1, 1]), (8, [1]), (8, [2]), (9, [0, 3]), (7, [0, 0]), (8, [0]), (7, [3, 1]), (8, [3]), (9, [1, 2]), (10, [1]), (11, [0, 13]), (13, [])]
noncomputable def daybookstands25R : List (Bool × DT) := stateR 21 [6, 8, 4, 6, 8, 10, 2, 4, 6, 6, 5, 9, 8, 12, 4, 4] [[0, 1], [2, 1], [2, 3]] [5, 5, 5] 0 [0, 2, 4] 0 [] [0, 1, 0, 1] [3, 2] 1 [0, 0] [0, 1, 2, 3, 4, 5, 6, 7, 8, 9, 10]
noncomputable def daybookstandsSpec : Spec := closedSpec daybookstands0A daybookstands0R (closedSpec daybookstands1A daybookstands1R (closedSpec daybookstands2A daybookstands2R (closedSpec daybookstands3A daybookstands3R (closedSpec daybookstands4A daybookstands4R (closedSpec daybookstands5A daybookstands5R (closedSpec daybookstands6A daybookstands6R (closedSpec daybookstands7A daybookstands7R (closedSpec daybookstands8A daybookstands8R (closedSpec daybookstands9A daybookstands9R (closedSpec daybookstands10A daybookstands10R (closedSpec daybookstands11A daybookstands11R (closedSpec daybookstands12A daybookstands12R (closedSpec daybookstands13A daybookstands13R (closedSpec daybookstands14A daybookstands14R (closedSpec daybookstands15A daybookstands15R (closedSpec daybookstands16A daybookstands16R (closedSpec daybookstands17A daybookstands17R (closedSpec daybookstands18A daybookstands18R (closedSpec daybookstands19A daybookstands19R (closedSpec daybookstands20A daybookstands20R (closedSpec daybookstands21A daybookstands21R (closedSpec daybookstands22A daybookstands22R (closedSpec daybookstands23A daybookstands23R (closedSpec daybookstands24A daybookstands24R (closedSpec daybookstands25A daybookstands25R noSpec)))))))))))))))))))))))))
noncomputable def letterRows0A : List (Bool × DT) := [(true, (.sl 3 1 (plI [6, 4, 8] .nil) (.sl 2 4 (plI [0, 1, 1, 3, 2, 0, 0, 2] .nil) (plI [2, 4, 5, 8, 3] (.sl 2 3 (.sl 3 1 (plI [2, 0, 1] .nil) (.pl (.slice none 0 0) (.pl (.bool false) (.sl 2 1 (plI [0, 2] .nil) (.sl 1 1 (plI [1] .nil) (.pl (.bool true) .nil)))))) (plI [21, 2] .nil))))))]
noncomputable def letterRows0R : List (Bool × DT) := [(false, (plI [2] .nil)), (false, (plI [0] .nil))]
noncomputable def letterRows1A : List (Bool × DT) := [(true, (.sl 3 1 (plI [6, 4, 8] .nil) (.sl 2 4 (plI [0, 1, 1, 3, 2, 0, 0, 2] .nil) (plI [2, 4, 5, 8, 3] (.sl 2 3 (.sl 3 1 (plI [2, 0, 1] .nil) (.pl (.slice none 0 0) (.pl (.bool false) (.sl 2 1 (plI [0, 2] .nil) (.sl 1 1 (plI [1] .nil) (.pl (.bool true) .nil)))))) (plI [19, 2] .nil))))))]
noncomputable def letterRows1R : List (Bool × DT) := [(false, (plI [2] .nil)), (false, (plI [0] .nil))]
noncomputable def letterRows2A : List (Bool × DT) := [(true, (.sl 3 1 (plI [6, 4, 8] .nil) (.sl 2 4 (plI [0, 1, 1, 3, 2, 0, 0, 2] .nil) (plI [2, 4, 5, 8, 3] (.sl 2 3 (.sl 3 1 (plI [2, 0, 1] .nil) (.pl (.slice none 0 0) (.pl (.bool false) (.sl 2 1 (plI [0, 2] .nil) (.sl 1 1 (plI [1] .nil) (.pl (.bool true) .nil)))))) (plI [18, 2] .nil))))))]
noncomputable def letterRows2R : List (Bool × DT) := [(false, (plI [0] .nil)), (false, (plI [5] .nil))]
noncomputable def letterRowsSpec : Spec := closedSpec letterRows0A letterRows0R (closedSpec letterRows1A letterRows1R (closedSpec letterRows2A letterRows2R noSpec))
noncomputable def letterSet0A : List (Bool × DT) := [(true, (.sl 3 1 (plI [6, 4, 8] .nil) (.sl 2 4 (plI [0, 1, 1, 3, 2, 0, 0, 2] .nil) (plI [2, 4, 5, 8, 3] (.sl 2 3 (.sl 3 1 (plI [2, 0, 1] .nil) (.pl (.slice none 0 0) (.pl (.bool false) (.sl 2 1 (plI [0, 2] .nil) (.sl 1 1 (plI [1] .nil) (.pl (.bool true) .nil)))))) (plI [21, 2] .nil))))))]
noncomputable def letterSet0R : List (Bool × DT) := [(true, (.pl (.slice none 0 0) (.sl 2 2 (plI [0, 3, 1, 2] .nil) .nil))), (false, (plI [9] .nil)), (false, (plI [0] .nil))]
noncomputable def letterSet1A : List (Bool × DT) := [(true, (.sl 3 1 (plI [6, 4, 8] .nil) (.sl 2 4 (plI [0, 1, 1, 3, 2, 0, 0, 2] .nil) (plI [2, 4, 5, 8, 3] (.sl 2 3 (.sl 3 1 (plI [2, 0, 1] .nil) (.pl (.slice none 0 0) (.pl (.bool false) (.sl 2 1 (plI [0, 2] .nil) (.sl 1 1 (plI [1] .nil) (.pl (.bool true) .nil)))))) (plI [19, 2] .nil))))))]
noncomputable def letterSet1R : List (Bool × DT) := [(true, (.pl (.slice none 0 0) (.sl 2 2 (plI [0, 3, 1, 2] .nil) .nil))), (false, (plI [4] .nil)), (false, (plI [0] .nil))]
noncomputable def letterSetSpec : Spec := closedSpec letterSet0A letterSet0R (closedSpec letterSet1A letterSet1R noSpec)
noncomputable def priceCheck0A : List (Bool × DT) := [(true, (.sl 2 1 (plI [0, 25] .nil) (.sl 2 5 (plI [7, 10, 3, 4, 0, 5, 6, 2, 2, 1] .nil) (.sl 3 5 (plI [1, 5, 3, 3] (.pl (.bool true) (plI [2, 5, 4, 1] (.pl (.bool false) (plI [3, 4, 1, 2] (.pl (.bool true) .nil)))))) .nil))))]
noncomputable def priceCheck0R : List (Bool × DT) := [(false, (plI [0] .nil))]
noncomputable def priceCheckSpec : Spec := closedSpec priceCheck0A priceCheck0R noSpec
noncomputable def priceOwes0A : List (Bool × DT) := [(true, (.sl 2 1 (plI [0, 25] .nil) (.sl 2 5 (plI [7, 10, 3, 4, 0, 5, 6, 2, 2, 1] .nil) (.sl 3 5 (plI [1, 5, 3, 3] (.pl (.bool true) (plI [2, 5, 4, 1] (.pl (.bool false) (plI [3, 4, 1, 2] (.pl (.bool true) .nil)))))) .nil)))), (false, (plI [1] .nil)), (false, (.sl 2 1 (plI [3, 2] .nil) .nil))]
noncomputable def priceOwes0R : List (Bool × DT) := [(false, (.sl 2 1 (plI [13, 6] .nil) .nil)), (false, (plI [0] .nil))]
noncomputable def priceOwesSpec : Spec := closedSpec priceOwes0A priceOwes0R noSpec
noncomputable def priceSame0A : List (Bool × DT) := [(true, (.sl 2 1 (plI [0, 25] .nil) (.sl 2 5 (plI [7, 10, 3, 4, 0, 5, 6, 2, 2, 1] .nil) (.sl 3 5 (plI [1, 5, 3, 3] (.pl (.bool true) (plI [2, 5, 4, 1] (.pl (.bool false) (plI [3, 4, 1, 2] (.pl (.bool true) .nil)))))) .nil)))), (false, (plI [0] .nil)), (false, (plI [1] .nil))]
noncomputable def priceSame0R : List (Bool × DT) := [(false, (plI [3] .nil)), (false, (plI [0] .nil))]
noncomputable def priceSameSpec : Spec := closedSpec priceSame0A priceSame0R noSpec
noncomputable def stripBefore0A : List (Bool × DT) := [(true, (plI [4] (.sl 4 1 (.sl 2 1 (plI [0, 1] .nil) (.sl 2 1 (plI [2, 1] .nil) (.sl 2 1 (plI [2, 3] .nil) (.sl 2 1 (plI [2, 0] .nil) .nil)))) .nil))), (false, (plI [0] .nil)), (false, (plI [2] .nil))]
noncomputable def stripBefore0R : List (Bool × DT) := [(false, (plI [1] .nil)), (false, (plI [0] .nil))]
noncomputable def stripBefore1A : List (Bool × DT) := [(true, (plI [4] (.sl 3 1 (.sl 2 1 (plI [0, 1] .nil) (.sl 2 1 (plI [2, 1] .nil) (.sl 2 1 (plI [2, 3] .nil) .nil))) .nil))), (false, (plI [0] .nil)), (false, (plI [2] .nil))]
noncomputable def stripBefore1R : List (Bool × DT) := [(false, (plI [2] .nil)), (false, (plI [0] .nil))]
noncomputable def stripBeforeSpec : Spec := closedSpec stripBefore0A stripBefore0R (closedSpec stripBefore1A stripBefore1R noSpec)
noncomputable def stripFirst0A : List (Bool × DT) := [(true, (plI [4] (.sl 3 1 (.sl 2 1 (plI [0, 1] .nil) (.sl 2 1 (plI [2, 1] .nil) (.sl 2 1 (plI [2, 3] .nil) .nil))) .nil)))]
noncomputable def stripFirst0R : List (Bool × DT) := [(false, (.sl 4 1 (plI [0, 2, 1, 3] .nil) .nil)), (false, (plI [0] .nil))]
noncomputable def stripFirst1A : List (Bool × DT) := [(true, (plI [4] (.sl 4 1 (.sl 2 1 (plI [0, 1] .nil) (.sl 2 1 (plI [2, 1] .nil) (.sl 2 1 (plI [2, 3] .nil) (.sl 2 1 (plI [2, 0] .nil) .nil)))) .nil)))]
noncomputable def stripFirst1R : List (Bool × DT) := [(false, (.sl 4 1 (plI [2, 0, 1, 3] .nil) .nil)), (false, (plI [0] .nil))]
noncomputable def stripFirst2A : List (Bool × DT) := [(true, (plI [4] (.sl 5 1 (.sl 2 1 (plI [0, 1] .nil) (.sl 2 1 (plI [2, 1] .nil) (.sl 2 1 (plI [2, 3] .nil) (.sl 2 1 (plI [2, 0] .nil) (.sl 2 1 (plI [0, 2] .nil) .nil))))) .nil)))]
noncomputable def stripFirst2R : List (Bool × DT) := [(false, (.pl (.slice none 0 0) .nil)), (false, (plI [5] .nil))]
noncomputable def stripFirstSpec : Spec := closedSpec stripFirst0A stripFirst0R (closedSpec stripFirst1A stripFirst1R (closedSpec stripFirst2A stripFirst2R noSpec))
noncomputable def tintCheck0A : List (Bool × DT) := [(true, (plI [60, 40, 20, 1, 2, 1, 1, 0, 0, 5, 5, 5] (.sl 3 6 (plI [80, 82, 20, 20, 0, 2, 20, 22, 60, 60, 40, 40, 50, 50, 10, 12, 30, 30] .nil) .nil)))]
noncomputable def tintCheck0R : List (Bool × DT) := [(false, (plI [0] .nil))]
noncomputable def tintCheckSpec : Spec := closedSpec tintCheck0A tintCheck0R noSpec
noncomputable def tintWord0A : List (Bool × DT) := [(true, (plI [60, 40, 20, 1, 2, 1, 1, 0, 0, 5, 5, 5] (.sl 3 6 (plI [80, 82, 20, 20, 0, 2, 20, 22, 60, 60, 40, 40, 50, 50, 10, 12, 30, 30] .nil) .nil))), (false, (.sl 3 1 (plI [1, 1, 0] .nil) .nil))]
noncomputable def tintWord0R : List (Bool × DT) := [(false, (plI [3] .nil)), (false, (plI [0] .nil))]
noncomputable def tintWord1A : List (Bool × DT) := [(true, (plI [60, 40, 20, 1, 2, 1, 1, 0, 0, 5, 5, 5] (.sl 3 6 (plI [80, 82, 20, 20, 0, 2, 20, 22, 60, 60, 40, 40, 50, 50, 10, 12, 30, 30] .nil) .nil))), (false, (.sl 3 1 (plI [3, 2, 0] .nil) .nil))]
noncomputable def tintWord1R : List (Bool × DT) := [(false, (plI [2] .nil)), (false, (plI [0] .nil))]
noncomputable def tintWord2A : List (Bool × DT) := [(true, (plI [60, 40, 20, 1, 2, 1, 1, 0, 0, 5, 5, 5] (.sl 3 6 (plI [80, 82, 20, 20, 0, 2, 20, 22, 60, 60, 40, 40, 50, 50, 10, 12, 30, 30] .nil) .nil))), (false, (.sl 3 1 (plI [2, 2, 0] .nil) .nil))]
noncomputable def tintWord2R : List (Bool × DT) := [(false, (plI [3] .nil)), (false, (plI [0] .nil))]
noncomputable def tintWord3A : List (Bool × DT) := [(true, (plI [60, 40, 20, 1, 2, 1, 1, 0, 0, 5, 5, 5] (.sl 3 6 (plI [80, 82, 20, 20, 0, 2, 20, 22, 60, 60, 40, 40, 50, 50, 10, 12, 30, 30] .nil) .nil))), (false, (.sl 3 1 (plI [1, 2, 0] .nil) .nil))]
noncomputable def tintWord3R : List (Bool × DT) := [(false, (plI [1] .nil)), (false, (plI [0] .nil))]
noncomputable def tintWordSpec : Spec := closedSpec tintWord0A tintWord0R (closedSpec tintWord1A tintWord1R (closedSpec tintWord2A tintWord2R (closedSpec tintWord3A tintWord3R noSpec)))
/-- what functions of the program do at these data -/
noncomputable def specs1 (f : Nat) : Option Spec := match Nat.beq f 109 with | true => some benchBestSpec | false => match Nat.beq f 132 with | true => some benchCheckSpec | false => match Nat.beq f 108 with | true => some benchEndsSpec | false => match Nat.beq f 77 with | true => some coatFirstSpec | false => match Nat.beq f 129 with | true => some coatMendSpec | false => match Nat.beq f 76 with | true => some daybookownSpec | false => match Nat.beq f 55 with | true => some daybookpartedSpec | false => match Nat.beq f 196 with | true => some letterRowsSpec | false => match Nat.beq f 101 with | true => some letterSetSpec | false => match Nat.beq f 135 with | true => some priceCheckSpec | false => match Nat.beq f 111 with | true => some priceOwesSpec | false => match Nat.beq f 112 with | true => some priceSameSpec | false => match Nat.beq f 103 with | true => some stripBeforeSpec | false => match Nat.beq f 102 with | true => some stripFirstSpec | false => match Nat.beq f 133 with | true => some tintCheckSpec | false => match Nat.beq f 104 with | true => some tintWordSpec | false => specs f
noncomputable def C1 : Ctx := Ctx.mk Tryz.prog FT TT eqTypes specs1
noncomputable def specs2 (f : Nat) : Option Spec := match Nat.beq f 33 with | true => some daybookstandsSpec | false => specs1 f
noncomputable def C2 : Ctx := Ctx.mk Tryz.prog FT TT eqTypes specs2
noncomputable def scriptA0 : List (Bool × DT) := [(true, suiteT), (false, .pl (mkStr [115, 101, 116, 10, 112, 108, 97, 110, 10, 99, 111, 97, 116, 10, 99, 111, 97, 116, 10, 119, 97, 105, 116, 32, 50, 10, 119, 97, 105, 116, 32, 49, 10, 100, 114, 121, 32, 51, 32, 48, 32, 52, 10, 112, 108, 97, 110, 10, 99, 111, 97, 116, 10, 100, 114, 121, 32, 50, 32, 56, 32, 56, 10, 100, 114, 121, 32, 52, 32, 57, 32, 57, 10, 119, 97, 105, 116, 32, 51, 10, 99, 111, 97, 116, 10, 108, 97, 105, 100, 10, 119, 97, 105, 116, 32, 51, 10, 119, 97, 105, 116, 32, 50, 10, 100, 97, 121, 10, 111, 114, 100, 101, 114, 10, 98, 101, 102, 111, 114, 101, 32, 48, 32, 50, 10, 115, 112, 111, 116, 32, 50, 32, 48, 10, 111, 114, 100, 101, 114, 10, 98, 101, 102, 111, 114, 101, 32, 48, 32, 50, 10, 115, 112, 111, 116, 32, 48, 32, 50, 10, 119, 111, 114, 100, 32, 49, 32, 49, 32, 48, 10, 109, 105, 120, 32, 49, 32, 49, 32, 48, 10, 109, 105, 120, 32, 49, 32, 50, 32, 48, 10, 109, 105, 120, 32, 51, 32, 50, 32, 48, 10, 115, 116, 111, 99, 107, 32, 48, 10, 109, 105, 120, 32, 50, 32, 50, 32, 48, 10, 102, 105, 108, 108, 32, 48, 32, 57, 10, 115, 116, 111, 99, 107, 32, 48, 10, 102, 105, 108, 108, 32, 48, 32, 51, 49, 10, 102, 114, 111, 110, 116, 32, 49, 56, 10, 102, 114, 111, 110, 116, 32, 49, 57, 10, 115, 101, 116, 10, 115, 116, 97, 110, 100, 115, 10]) .nil)]
noncomputable def scriptR0 : List (Bool × DT) := [(false, .pl (mkStr [50, 32, 57, 10, 48, 32, 50, 32, 52, 10, 110, 111, 116, 101, 100, 10, 101, 114, 114, 111, 114, 32, 55, 10, 110, 111, 116, 101, 100, 10, 101, 114, 114, 111, 114, 32, 55, 10, 110, 111, 116, 101, 100, 10, 48, 32, 50, 32, 53, 10, 110, 111, 116, 101, 100, 10, 101, 114, 114, 111, 114, 32, 55, 10, 101, 114, 114, 111, 114, 32, 55, 10, 110, 111, 116, 101, 100, 10, 110, 111, 116, 101, 100, 10, 51, 10, 101, 114, 114, 111, 114, 32, 55, 10, 110, 111, 116, 101, 100, 10, 55, 10, 48, 32, 50, 32, 49, 32, 51, 10, 50, 10, 110, 111, 116, 101, 100, 10, 50, 32, 48, 32, 49, 32, 51, 10, 49, 10, 101, 114, 114, 111, 114, 32, 55, 10, 51, 10, 110, 111, 116, 101, 100, 10, 101, 114, 114, 111, 114, 32, 55, 10, 110, 111, 116, 101, 100, 10, 49, 10, 101, 114, 114, 111, 114, 32, 55, 10, 110, 111, 116, 101, 100, 10, 49, 48, 10, 101, 114, 114, 111, 114, 32, 55, 10, 101, 114, 114, 111, 114, 32, 55, 10, 110, 111, 116, 101, 100, 10, 50, 32, 52, 10, 48, 32, 49, 32, 50, 32, 51, 32, 52, 32, 53, 32, 54, 32, 55, 32, 56, 32, 57, 32, 49, 48, 32, 49, 49, 10]) .nil), (false, plI [0] .nil)]
noncomputable def scriptA1 : List (Bool × DT) := [(true, suiteT), (false, .pl (mkStr [103, 105, 118, 101, 32, 50, 32, 49, 10, 103, 105, 118, 101, 32, 50, 32, 48, 10, 104, 97, 110, 100, 32, 50, 10, 104, 97, 110, 100, 32, 49, 10, 100, 111, 110, 101, 32, 50, 10, 103, 105, 118, 101, 32, 49, 32, 49, 10, 114, 101, 97, 100, 121, 10, 100, 111, 110, 101, 32, 49, 10, 114, 101, 97, 100, 121, 10, 100, 111, 110, 101, 32, 50, 10, 104, 111, 117, 114, 115, 32, 48, 32, 51, 10, 104, 111, 117, 114, 115, 32, 49, 32, 50, 10, 101, 110, 100, 115, 10, 103, 105, 118, 101, 32, 48, 32, 48, 10, 98, 101, 115, 116, 10, 100, 111, 110, 101, 32, 48, 10, 103, 105, 118, 101, 32, 51, 32, 49, 10, 100, 111, 110, 101, 32, 51, 10, 101, 110, 100, 115, 10, 104, 111, 117, 114, 115, 32, 49, 32, 50, 10, 111, 119, 101, 115, 32, 48, 10, 100, 101, 97, 108, 32, 49, 10, 111, 119, 101, 115, 32, 48, 10, 111, 119, 101, 115, 32, 49, 10, 112, 97, 121, 32, 48, 32, 49, 51, 10, 112, 97, 121, 32, 48, 32, 49, 10, 112, 97, 105, 100, 32, 48, 10, 115, 97, 109, 101, 32, 48, 32, 49, 10, 117, 110, 100, 111, 10, 112, 97, 105, 100, 32, 48, 10]) .nil)]
noncomputable def scriptR1 : List (Bool × DT) := [(false, .pl (mkStr [101, 114, 114, 111, 114, 32, 55, 10, 110, 111, 116, 101, 100, 10, 48, 10, 110, 111, 116, 104, 105, 110, 103, 10, 101, 114, 114, 111, 114, 32, 55, 10, 110, 111, 116, 101, 100, 10, 49, 10, 110, 111, 116, 101, 100, 10, 50, 10, 110, 111, 116, 101, 100, 10, 110, 111, 116, 101, 100, 10, 101, 114, 114, 111, 114, 32, 55, 10, 101, 114, 114, 111, 114, 32, 55, 10, 110, 111, 116, 101, 100, 10, 48, 32, 49, 32, 48, 32, 49, 10, 110, 111, 116, 101, 100, 10, 110, 111, 116, 101, 100, 10, 110, 111, 116, 101, 100, 10, 50, 32, 50, 32, 50, 32, 51, 32, 51, 32, 53, 32, 51, 32, 54, 10, 110, 111, 116, 101, 100, 10, 101, 114, 114, 111, 114, 32, 55, 10, 110, 111, 116, 101, 100, 10, 49, 51, 10, 54, 10, 110, 111, 116, 101, 100, 10, 101, 114, 114, 111, 114, 32, 55, 10, 49, 51, 10, 51, 10, 110, 111, 116, 101, 100, 10, 48, 10]) .nil), (false, plI [0] .nil)]
noncomputable def consoleSpec : Spec := closedSpec scriptA0 scriptR0 (closedSpec scriptA1 scriptR1 noSpec)
noncomputable def specs3 (f : Nat) : Option Spec := match Nat.beq f 16 with | true => some consoleSpec | false => specs f
noncomputable def C3 : Ctx := Ctx.mk Tryz.prog FT TT eqTypes specs3
/-- what the examples' check returns: true, and it leaves nothing behind -/
noncomputable def knownSpec : Spec
  | [], h => some (.ret (.bool true) h none)
  | _, _ => none
noncomputable def specsK (f : Nat) : Option Spec := match Nat.beq f 6 with | true => some knownSpec | false => specs f
noncomputable def CC : Ctx := Ctx.mk Tryz.prog FT TT eqTypes specsK

noncomputable def aggAt (C : Ctx) (t : Nat) : Bool := match C.und t with | some d => aggDesc d | none => false
noncomputable def oneAt (C : Ctx) (t : Nat) : Bool := match C.und t with | some d => !(aggDesc d) | none => false
theorem part_one' {C : Ctx} {t : TypeId} (h : oneAt C t = true) (cells : List Value) (o : Nat) : partOf C t cells o = cells[o]? := by
  unfold oneAt at h
  split at h
  · rename_i d hd; exact part_one hd (by simpa using h) cells o
  · simp at h
theorem part_agg' {C : Ctx} {t : TypeId} {n : Nat} (h : aggAt C t = true) (hs : C.size t = some n) (cells : List Value) (o : Nat) : partOf C t cells o = obind (take? cells o n) fun l => some (mkAgg l) := by
  unfold aggAt at h
  split at h
  · rename_i d hd; exact part_agg hd h hs cells o
  · simp at h
theorem load_one {C : Ctx} {t : TypeId} (ha : oneAt C t = true) (b p : Nat) (sp : Option Nat) (h : Heap) : aLoad C t (.pointer (some ⟨b, p, sp⟩)) h = obind (rowAt h b) fun l => l[p]? := by
  rw [M_load]; simp only [part_one' ha]
theorem load_agg {C : Ctx} {t : TypeId} {n : Nat} (ha : aggAt C t = true) (hs : C.size t = some n) (b p : Nat) (sp : Option Nat) (h : Heap) : aLoad C t (.pointer (some ⟨b, p, sp⟩)) h = obind (rowAt h b) fun l => obind (take? l p n) fun l => some (mkAgg l) := by
  rw [M_load]; simp only [part_agg' ha hs]
theorem fval_one {C : Ctx} {t u : TypeId} {i o z : Nat} (hf : C.fieldAt t i = some (o, u, z)) (ha : oneAt C u = true) (l : List Value) : aField C t (.agg ⟨l⟩) i = obind l[o]? asVal := by
  simp only [aField, hf, obind_some, aggOf, part_one' ha]
theorem fval_agg {C : Ctx} {t u : TypeId} {i o z : Nat} (hf : C.fieldAt t i = some (o, u, z)) (ha : aggAt C u = true) (hs : C.size u = some z) (l : List Value) : aField C t (.agg ⟨l⟩) i = obind (take? l o z) fun l => asVal (mkAgg l) := by
  simp only [aField, hf, obind_some, aggOf, part_agg' ha hs]
  cases take? l o z <;> rfl
theorem ix_slice {C : Ctx} {t e : TypeId} {n : Nat} (hu : C.und t = some (.slice e)) (hs : C.size e = some n) (b o : Nat) (sp : Option Nat) (len cap i : Nat) (hi : i < len) : aIndexAddr C t (.slice (some ⟨b, o, sp⟩) len cap) (.int .i64 i) = some (.pointer (some ⟨b, o + i * n, none⟩)) :=
  indexAddr_at hu hs ⟨b, o, sp⟩ len cap .i64 i hi
noncomputable def structAt (C : Ctx) (t : Nat) : Bool := match C.und t with | some (.struct _) => true | _ => false
theorem build_struct {C : Ctx} {t : Nat} {z : Value} (h : structAt C t = true) (hz : C.zero t = some z) (p : List (Nat × Value)) : aBuild C t p = obind (fillWith (structPlace C t) p (cellsOf z)) fun l => some (mkAgg l) := by
  unfold structAt at h
  split at h
  · rename_i fs hd; unfold aBuild; rw [hz, hd]; rfl
  · simp at h
theorem build_array {C : Ctx} {t e n : Nat} {z : Value} {m : Nat} (h : C.und t = some (.array m e)) (hs : C.size e = some n) (hz : C.zero t = some z) (p : List (Nat × Value)) : aBuild C t p = obind (fillWith (rowPlace n) p (cellsOf z)) fun l => some (mkAgg l) := by
  unfold aBuild; rw [hz, h]; simp only [obind_some, buildIn, hs]
theorem place_struct {C : Ctx} {t i o u z : Nat} (h : C.fieldAt t i = some (o, u, z)) : structPlace C t i = some (o, z) := by unfold structPlace; rw [h]; rfl
noncomputable def noIface (C : Ctx) (t : Nat) : Bool := match C.und t with | some d => !(isIfaceD d) | none => false
theorem make_iface {C : Ctx} {t : Nat} (h : noIface C t = true) (v : Value) : aMakeIface C t v = some (.val (.iface t v)) := by
  unfold noIface at h
  split at h
  · rename_i d hd; unfold aMakeIface; rw [hd]; simp only [obind_some, h, guardB_true]; rfl
  · simp at h
theorem index_array {C : Ctx} {t e n : Nat} {m : Nat} (h : C.und t = some (.array m e)) (hs : C.size e = some n) (ho : oneAt C e = true) (l : List Value) (i : Nat) (hi : i < m) : aIndex C t (.agg ⟨l⟩) (.int .i64 i) = l[i * n]? := by
  unfold aIndex; rw [h]
  show obind (natBelow m i) _ = _
  have : Nat.ble (i + 1) m = true := Nat.ble_eq_true_of_le hi
  show obind (guardB (Nat.ble (i + 1) m) (some i)) _ = _
  rw [this]; simp only [guardB_true, obind_some, hs, part_one' ho]
theorem indexAddr_array {C : Ctx} {t e n : Nat} {m : Nat} (h : C.und t = some (.array m e)) (hs : C.size e = some n) (b o : Nat) (sp : Option Nat) (i : Nat) (hi : i < m) : aIndexAddr C t (.pointer (some ⟨b, o, sp⟩)) (.int .i64 i) = some (.pointer (some ⟨b, o + i * n, none⟩)) := by
  unfold aIndexAddr; rw [h]
  have : Nat.ble (i + 1) m = true := Nat.ble_eq_true_of_le hi
  show obind (guardB (Nat.ble (i + 1) m) (some i)) _ = _
  rw [this]; simp only [guardB_true, obind_some, hs, addrAt]
theorem buildSlice_one {C : Ctx} {t e : Nat} {z v : Value} (h : C.und t = some (.slice e)) (hs : C.size e = some 1) (hz : C.zero e = some z) (h1 : (cellsOf z).length = 1) (h2 : cellsOf v = [v]) : aBuildSlice C t 1 [(0, v)] = some (.new (.row [v] 1 true) (sliceTo 1 1 1)) := by
  have hz1 : (cellsOf z) = [(cellsOf z).headD v] := by
    cases hc : cellsOf z with
    | nil => rw [hc] at h1; simp at h1
    | cons a l => rw [hc] at h1; cases l <;> simp at h1 ⊢
  unfold aBuildSlice; rw [h]
  simp only [obind_some, sliceElem, zeroRow, hs, hz]
  have e1 : Nat.beq (cellsOf z).length 1 = true := by rw [h1]; rfl
  rw [e1]
  simp only [guardB_true, obind_some]
  show guardB true (obind (fillWith (rowPlace 1) [(0, v)] (cellsOf z ++ [])) _) = _
  rw [List.append_nil, guardB_true]
  show obind (obind (fill1 (rowPlace 1) (cellsOf z) (0, v)) fun c => some c) _ = _
  unfold fill1
  show obind (obind (guardB (Nat.beq (cellsOf v).length 1) (guardB (Nat.ble (0 + 1) (cellsOf z).length) _)) _) _ = _
  rw [h2, h1]
  show some (EV.new (AObj.row ((cellsOf z).take (0 * 1) ++ ([v] ++ (cellsOf z).drop (0 * 1 + 1))) 1 true) (sliceTo 1 1 1)) = _
  rw [hz1]; rfl
/-- what append needs, as a check -/
noncomputable def appB (C : Ctx) (t u s : Nat) : Bool := match C.und t with
  | some (.slice e) => (match C.T.get e with | some i => Nat.beq i.size s && (Nat.ble i.bytes 1024 && zeroFits i.size (C.zero e)) | none => false) && (match C.und u with | some d => listy d | none => false)
  | _ => false
theorem appT {C : Ctx} {t u s : Nat} (h : appB C t u s = true) : AppT C t u s := by
  unfold appB at h
  split at h
  · rename_i e he
    obtain ⟨h1, h2⟩ := (Bool.and_eq_true _ _).mp h
    split at h1
    · rename_i i hi
      obtain ⟨h3, h4⟩ := (Bool.and_eq_true _ _).mp h1
      obtain ⟨h4, h5⟩ := (Bool.and_eq_true _ _).mp h4
      split at h2
      · rename_i d hd
        exact ⟨e, i, d, he, hi, Nat.eq_of_beq_eq_true h3, Nat.le_of_ble_eq_true h4, hd, h2, h5⟩
      · simp at h2
    · simp at h1
  · simp at h
end Go.Am

