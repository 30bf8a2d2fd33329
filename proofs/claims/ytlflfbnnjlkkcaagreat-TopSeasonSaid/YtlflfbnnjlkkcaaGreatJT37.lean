/- Parts T37, T59 of the abstract machine over this program, joined: what each part says stands at its head. -/
import Derived.Test.YtlflfbnnjlkkcaaGreatProg
import Derived.Test.YtlflfbnnjlkkcaaGreatJAm35
import Derived.Test.YtlflfbnnjlkkcaaGreatJK0
import Derived.KernelRfl
import Derived.Laws.StructEq
import Derived.Laws.Small
import Derived.DeepKeys3
set_option linter.unusedSimpArgs false
set_option linter.unusedVariables false
set_option linter.defProp false
namespace Go.Am
open Go Go.Proofs
noncomputable def FT : NT Func := NT.ofFn (fun i => Tryz.prog.funcs[i]?) 9
noncomputable def TT : NT TypeInfo := NT.ofFn (fun i => Tryz.prog.types[i]?) 9
noncomputable def eqTypes (t : Nat) : Bool := Nat.beq t 221 || (Nat.beq t 285 || (Nat.beq t 353 || (Nat.beq t 387 || (Nat.beq t 344 || Nat.beq t 428))))
noncomputable def C0 : Ctx := Ctx.mk Tryz.prog FT TT eqTypes fun _ => none
noncomputable def plI (l : List Int) (r : DT) : DT := lrec r (fun n _ ih => .pl (.int .i64 n) ih) l
noncomputable def listT (l : List Int) (r : DT) : DT := match l with | [] => .pl (.slice none 0 0) r | _ :: _ => .sl l.length 1 (plI l .nil) r
noncomputable def listsT (l : List (List Int)) : DT := lrec .nil (fun x _ ih => listT x ih) l
noncomputable def suiteG (wide : Int) (dry : List Int) (spots : List (List Int)) (stock : List Int) (r : DT) : DT := (.sl 3 1 (plI [6, 4, 8] .nil) (.sl 2 4 (plI [0, 1, 1, 3, 2, 0, 0, 2] .nil) (plI [2, 4, 5, 8, 3] (.sl 2 3 (.sl 3 1 (plI [2, 0, 1] .nil) (.pl (.slice none 0 0) (.pl (.bool false) (.sl 2 1 (plI [0, 2] .nil) (.sl 1 1 (plI [1] .nil) (.pl (.bool true) .nil)))))) (.pl (.int .i64 wide) (plI [2] (.sl 8 2 (plI dry .nil) (.sl 8 1 (plI [0, 1, 2, 3, 4, 5, 6, 7] .nil) (.sl 3 2 (plI [9, 20, 10, 20, 8, 30] .nil) (plI [4] (.sl spots.length 1 (listsT spots) (plI [1] (.sl 2 1 (plI [5, 6] .nil) (.sl 4 5 (plI [1] (.pl (.bool true) (plI [2, 2] (.pl (.slice none 0 0) (plI [0] (.pl (.bool false) (plI [2, 3] (.pl (.slice none 0 0) (plI [0] (.pl (.bool true) (plI [1, 2] (.sl 1 1 (plI [1] .nil) (plI [1] (.pl (.bool false) (plI [1, 3] (.sl 1 1 (plI [0] .nil) .nil)))))))))))))))) (plI [60, 40, 20, 1, 2, 1, 1, 0, 0, 5, 5, 5] (.sl 3 6 (plI [80, 82, 20, 20, 0, 2, 20, 22, 60, 60, 40, 40, 50, 50, 10, 12, 30, 30] .nil) (listT stock (.sl 2 1 (plI [0, 25] .nil) (.sl 2 5 (plI [7, 10, 3, 4, 0, 5, 6, 2, 2, 1] .nil) (.sl 3 5 (plI [1, 5, 3, 3] (.pl (.bool true) (plI [2, 5, 4, 1] (.pl (.bool false) (plI [3, 4, 1, 2] (.pl (.bool true) .nil)))))) r))))))))))))))))))))
noncomputable def suiteT : DT := suiteG 21 [6, 8, 4, 6, 8, 10, 2, 4, 6, 6, 5, 9, 8, 12, 4, 4] [[0, 1], [2, 1], [2, 3]] [5, 5, 5] .nil
noncomputable def benchCheck0A : List (Bool × DT) := [(true, (plI [1] (.sl 2 1 (plI [5, 6] .nil) (.sl 4 5 (plI [1] (.pl (.bool true) (plI [2, 2] (.pl (.slice none 0 0) (plI [0] (.pl (.bool false) (plI [2, 3] (.pl (.slice none 0 0) (plI [0] (.pl (.bool true) (plI [1, 2] (.sl 1 1 (plI [1] .nil) (plI [1] (.pl (.bool false) (plI [1, 3] (.sl 1 1 (plI [0] .nil) .nil)))))))))))))))) .nil))))]
noncomputable def benchCheck0R : List (Bool × DT) := [(false, (plI [0] .nil))]
noncomputable def benchCheckSpec : Spec := closedSpec benchCheck0A benchCheck0R noSpec
noncomputable def letterRows0A : List (Bool × DT) := [(true, (.sl 3 1 (plI [6, 4, 8] .nil) (.sl 2 4 (plI [0, 1, 1, 3, 2, 0, 0, 2] .nil) (plI [2, 4, 5, 8, 3] (.sl 2 3 (.sl 3 1 (plI [2, 0, 1] .nil) (.pl (.slice none 0 0) (.pl (.bool false) (.sl 2 1 (plI [0, 2] .nil) (.sl 1 1 (plI [1] .nil) (.pl (.bool true) .nil)))))) (plI [21, 2] .nil))))))]
noncomputable def letterRows0R : List (Bool × DT) := [(false, (plI [2] .nil)), (false, (plI [0] .nil))]
noncomputable def letterRowsSpec : Spec := closedSpec letterRows0A letterRows0R noSpec
noncomputable def coatFirst0A : List (Bool × DT) := [(true, (.sl 8 2 (plI [6, 8, 4, 6, 8, 10, 2, 4, 6, 6, 5, 9, 8, 12, 4, 4] .nil) (.sl 8 1 (plI [0, 1, 2, 3, 4, 5, 6, 7] .nil) (.sl 3 2 (plI [9, 20, 10, 20, 8, 30] .nil) .nil))))]
noncomputable def coatFirst0R : List (Bool × DT) := [(false, (.sl 3 1 (plI [0, 2, 4] .nil) .nil)), (false, (plI [0] .nil))]
noncomputable def coatFirstSpec : Spec := closedSpec coatFirst0A coatFirst0R noSpec
noncomputable def stripFirst0A : List (Bool × DT) := [(true, (plI [4] (.sl 3 1 (.sl 2 1 (plI [0, 1] .nil) (.sl 2 1 (plI [2, 1] .nil) (.sl 2 1 (plI [2, 3] .nil) .nil))) .nil)))]
noncomputable def stripFirst0R : List (Bool × DT) := [(false, (.sl 4 1 (plI [0, 2, 1, 3] .nil) .nil)), (false, (plI [0] .nil))]
noncomputable def stripFirstSpec : Spec := closedSpec stripFirst0A stripFirst0R noSpec
noncomputable def tintCheck0A : List (Bool × DT) := [(true, (plI [60, 40, 20, 1, 2, 1, 1, 0, 0, 5, 5, 5] (.sl 3 6 (plI [80, 82, 20, 20, 0, 2, 20, 22, 60, 60, 40, 40, 50, 50, 10, 12, 30, 30] .nil) .nil)))]
noncomputable def tintCheck0R : List (Bool × DT) := [(false, (plI [0] .nil))]
noncomputable def tintCheckSpec : Spec := closedSpec tintCheck0A tintCheck0R noSpec
noncomputable def repeat4A : List (Bool × DT) := [(false, .sl 1 1 (plI [-1] .nil) .nil), (false, plI [4] .nil)]
noncomputable def repeat4R : List (Bool × DT) := [(false, .sl 4 1 (plI [-1, -1, -1, -1] .nil) .nil)]
noncomputable def repeat2A : List (Bool × DT) := [(false, .sl 1 1 (plI [-1] .nil) .nil), (false, plI [2] .nil)]
noncomputable def repeat2R : List (Bool × DT) := [(false, .sl 2 1 (plI [-1, -1] .nil) .nil)]
noncomputable def repeat1A : List (Bool × DT) := [(false, .sl 1 1 (plI [1] .nil) .nil), (false, plI [2] .nil)]
noncomputable def repeat1R : List (Bool × DT) := [(false, .sl 2 1 (plI [1, 1] .nil) .nil)]
noncomputable def repeatSpec : Spec := closedSpec repeat4A repeat4R (closedSpec repeat2A repeat2R (closedSpec repeat1A repeat1R noSpec))
noncomputable def benchBest0R : List (Bool × DT) := [(false, .sl 4 1 (plI [0, 1, 0, 1] .nil) .nil), (false, plI [6] .nil), (false, plI [0] .nil)]
noncomputable def benchBestSpec : Spec := closedSpec benchCheck0A benchBest0R noSpec
noncomputable def benchEnds0A : List (Bool × DT) := benchCheck0A ++ [(false, .sl 4 1 (plI [0, 1, 0, 1] .nil) .nil)]
noncomputable def benchEnds0R : List (Bool × DT) := [(false, .sl 4 2 (plI [2, 2, 2, 3, 3, 5, 3, 6] .nil) .nil), (false, plI [0] .nil)]
noncomputable def benchEndsSpec : Spec := closedSpec benchEnds0A benchEnds0R noSpec
noncomputable def i64Of : Value → Option Int
  | .int .i64 n => some n
  | _ => none
noncomputable def twoOf : List Value → Option (Int × Int)
  | [.int .i64 b, .int .i64 n] => some (b, n)
  | _ => none
noncomputable def natOfI : Int → Option Nat
  | .ofNat n => some n
  | _ => none
noncomputable def cellAt (h : Heap) (s i j : Nat) : Value → Option Value
  | .slice (some a) n _ => guardB (Nat.ble (i + 1) n) (obind (rowAt h a.block) fun row => lget row (a.off + i * s + j))
  | _ => none
noncomputable def numAt (h : Heap) (s i j : Nat) (v : Value) : Option Int := obind (cellAt h s i j v) i64Of
noncomputable def refusal (l : List UInt8) : Value := .iface 263 (.agg ⟨[mkStr l]⟩)
noncomputable def noneOn (h : Heap) (b : Int) (vs : Value) (es : List MapEntry) : Option Bool :=
  lrec (some true) (fun e _ ih => obind (obind (i64Of e.key) natOfI) fun k => obind (numAt h 5 k 0 vs) fun z => obind ih fun r => some (!(z == b) && r)) es
noncomputable def stampsOK (es : List MapEntry) (c : Nat) : Bool := lrec true (fun e l ih => Nat.ble (e.born + 1) c && (!(l.any fun x => Nat.beq x.born e.born) && ih)) es
noncomputable def noteNo (l : List UInt8) (h : Heap) : Option FRes := some (.panic (refusal l) h)
noncomputable def noteLast (h : Heap) : Bool → Option FRes
  | true => some (.ret (mkTup []) h none)
  | false => noteNo [115, 116, 114, 111, 107, 101, 115] h
noncomputable def noteMore (h : Heap) (row : List Value) (o : Nat) (b n : Int) (i : Nat) : Bool → Option FRes
  | true => obind (lget row (o + 33)) fun vb => obind (numAt h 5 i 2 vb) fun lo => obind (numAt h 5 i 3 vb) fun hi => match decide (lo ≤ n) && decide (n ≤ hi) with
    | true => obind (lget row (o + 17)) fun vs => obind (lget row (o + 38)) fun vm => obind (mapAt h vm) fun m => guardB (stampsOK m.2.1 m.2.2) (obind (noneOn h b vs m.2.1) (noteLast h))
    | false => noteNo [104, 111, 117, 114, 115] h
  | false => noteNo [98, 111, 97, 114, 100] h
noncomputable def noteAt (h : Heap) (row : List Value) (o : Nat) (b n : Int) : Option FRes :=
  obind (natOfI b) fun i => obind (lget row (o + 40)) fun vh => obind (sliceOf vh) fun q => match Nat.ble (i + 1) q.2.1 with
    | true => obind (numAt h 1 i 0 vh) fun x => noteMore h row o b n i (decide (x < 0))
    | false => noteNo [98, 111, 97, 114, 100] h
noncomputable def noteSpec : Spec
  | [.agg cs, .pointer (some a)], h => obind (twoOf cs.toList) fun q => obind (rowAt h a.block) fun row => noteAt h row a.off q.1 q.2
  | _, _ => none
noncomputable def suiteR : List (Bool × DT) := [(true, suiteT)]
noncomputable def suiteSpec : Spec := closedSpec [] suiteR noSpec
noncomputable def knownSpec : Spec
  | [], h => some (.ret (.bool true) h none)
  | _, _ => none
noncomputable def isTrue : Option FRes → Bool
  | some (.ret (.bool true) _ _) => true
  | _ => false
noncomputable def specs1 (f : Nat) : Option Spec := match Nat.beq f 7 with | true => some knownSpec | false => match Nat.beq f 18 with | true => some suiteSpec | false => match Nat.beq f 84 with | true => some benchCheckSpec | false => match Nat.beq f 195 with | true => some letterRowsSpec | false => match Nat.beq f 10 with | true => some coatFirstSpec | false => match Nat.beq f 11 with | true => some stripFirstSpec | false => match Nat.beq f 13 with | true => some tintCheckSpec | false => match Nat.beq f 156 with | true => some repeatSpec | false => match Nat.beq f 12 with | true => some benchBestSpec | false => match Nat.beq f 24 with | true => some benchEndsSpec | false => match Nat.beq f 352 with | true => some noteSpec | false => none
noncomputable def CC : Ctx := Ctx.mk Tryz.prog FT TT eqTypes specs1
noncomputable def aggAt (C : Ctx) (t : Nat) : Bool := match C.und t with | some d => aggDesc d | none => false
noncomputable def oneAt (C : Ctx) (t : Nat) : Bool := match C.und t with | some d => !(aggDesc d) | none => false
theorem part_one' {C : Ctx} {t : TypeId} (h : oneAt C t = true) (cells : List Value) (o : Nat) : partOf C t cells o = cells[o]? := by
  unfold oneAt at h
  split at h
  · rename_i d hd; exact part_one hd (by simpa using h) cells o
  · simp at h
theorem part_agg' {C : Ctx} {t : TypeId} {n : Nat} (h : aggAt C t = true) (hs : C.size t = some n) (cells : List Value) (o : Nat) : partOf C t cells o = obind (take? cells o n) fun l => some (mkAgg l) := by
  unfold aggAt at h
  split at h
  · rename_i d hd; exact part_agg hd h hs cells o
  · simp at h
theorem load_one {C : Ctx} {t : TypeId} (ha : oneAt C t = true) (b p : Nat) (sp : Option Nat) (h : Heap) : aLoad C t (.pointer (some ⟨b, p, sp⟩)) h = obind (rowAt h b) fun l => l[p]? := by
  rw [M_load]; simp only [part_one' ha]
theorem load_agg {C : Ctx} {t : TypeId} {n : Nat} (ha : aggAt C t = true) (hs : C.size t = some n) (b p : Nat) (sp : Option Nat) (h : Heap) : aLoad C t (.pointer (some ⟨b, p, sp⟩)) h = obind (rowAt h b) fun l => obind (take? l p n) fun l => some (mkAgg l) := by
  rw [M_load]; simp only [part_agg' ha hs]
theorem ix_slice {C : Ctx} {t e : TypeId} {n : Nat} (hu : C.und t = some (.slice e)) (hs : C.size e = some n) (b o : Nat) (sp : Option Nat) (len cap i : Nat) (hi : i < len) : aIndexAddr C t (.slice (some ⟨b, o, sp⟩) len cap) (.int .i64 i) = some (.pointer (some ⟨b, o + i * n, none⟩)) :=
  indexAddr_at hu hs ⟨b, o, sp⟩ len cap .i64 i hi
noncomputable def structAt (C : Ctx) (t : Nat) : Bool := match C.und t with | some (.struct _) => true | _ => false
theorem build_struct {C : Ctx} {t : Nat} {z : Value} (h : structAt C t = true) (hz : C.zero t = some z) (p : List (Nat × Value)) : aBuild C t p = obind (fillWith (structPlace C t) p (cellsOf z)) fun l => some (mkAgg l) := by
  unfold structAt at h
  split at h
  · rename_i fs hd; unfold aBuild; rw [hz, hd]; rfl
  · simp at h
theorem build_array {C : Ctx} {t e n : Nat} {z : Value} {m : Nat} (h : C.und t = some (.array m e)) (hs : C.size e = some n) (hz : C.zero t = some z) (p : List (Nat × Value)) : aBuild C t p = obind (fillWith (rowPlace n) p (cellsOf z)) fun l => some (mkAgg l) := by
  unfold aBuild; rw [hz, h]; simp only [obind_some, buildIn, hs]
theorem place_struct {C : Ctx} {t i o u z : Nat} (h : C.fieldAt t i = some (o, u, z)) : structPlace C t i = some (o, z) := by unfold structPlace; rw [h]; rfl
noncomputable def noIface (C : Ctx) (t : Nat) : Bool := match C.und t with | some d => !(isIfaceD d) | none => false
theorem make_iface {C : Ctx} {t : Nat} (h : noIface C t = true) (v : Value) : aMakeIface C t v = some (.val (.iface t v)) := by
  unfold noIface at h
  split at h
  · rename_i d hd; unfold aMakeIface; rw [hd]; simp only [obind_some, h, guardB_true]; rfl
  · simp at h
theorem index_array {C : Ctx} {t e n : Nat} {m : Nat} (h : C.und t = some (.array m e)) (hs : C.size e = some n) (ho : oneAt C e = true) (l : List Value) (i : Nat) (hi : i < m) : aIndex C t (.agg ⟨l⟩) (.int .i64 i) = l[i * n]? := by
  unfold aIndex; rw [h]
  show obind (natBelow m i) _ = _
  have : Nat.ble (i + 1) m = true := Nat.ble_eq_true_of_le hi
  show obind (guardB (Nat.ble (i + 1) m) (some i)) _ = _
  rw [this]; simp only [guardB_true, obind_some, hs, part_one' ho]
theorem indexAddr_array {C : Ctx} {t e n : Nat} {m : Nat} (h : C.und t = some (.array m e)) (hs : C.size e = some n) (b o : Nat) (sp : Option Nat) (i : Nat) (hi : i < m) : aIndexAddr C t (.pointer (some ⟨b, o, sp⟩)) (.int .i64 i) = some (.pointer (some ⟨b, o + i * n, none⟩)) := by
  unfold aIndexAddr; rw [h]
  have : Nat.ble (i + 1) m = true := Nat.ble_eq_true_of_le hi
  show obind (guardB (Nat.ble (i + 1) m) (some i)) _ = _
  rw [this]; simp only [guardB_true, obind_some, hs, addrAt]
theorem buildSlice_one {C : Ctx} {t e : Nat} {z v : Value} (h : C.und t = some (.slice e)) (hs : C.size e = some 1) (hz : C.zero e = some z) (h1 : (cellsOf z).length = 1) (h2 : cellsOf v = [v]) : aBuildSlice C t 1 [(0, v)] = some (.new (.row [v] 1 true) (sliceTo 1 1 1)) := by
  have hz1 : (cellsOf z) = [(cellsOf z).headD v] := by
    cases hc : cellsOf z with
    | nil => rw [hc] at h1; simp at h1
    | cons a l => rw [hc] at h1; cases l <;> simp at h1 ⊢
  unfold aBuildSlice; rw [h]
  simp only [obind_some, sliceElem, zeroRow, hs, hz]
  have e1 : Nat.beq (cellsOf z).length 1 = true := by rw [h1]; rfl
  rw [e1]
  simp only [guardB_true, obind_some]
  show guardB true (obind (fillWith (rowPlace 1) [(0, v)] (cellsOf z ++ [])) _) = _
  rw [List.append_nil, guardB_true]
  show obind (obind (fill1 (rowPlace 1) (cellsOf z) (0, v)) fun c => some c) _ = _
  unfold fill1
  show obind (obind (guardB (Nat.beq (cellsOf v).length 1) (guardB (Nat.ble (0 + 1) (cellsOf z).length) _)) _) _ = _
  rw [h2, h1]
  show some (EV.new (AObj.row ((cellsOf z).take (0 * 1) ++ ([v] ++ (cellsOf z).drop (0 * 1 + 1))) 1 true) (sliceTo 1 1 1)) = _
  rw [hz1]; rfl
noncomputable def appB (C : Ctx) (t u s : Nat) : Bool := match C.und t with
  | some (.slice e) => (match C.T.get e with | some i => Nat.beq i.size s && (Nat.ble i.bytes 1024 && zeroFits i.size (C.zero e)) | none => false) && (match C.und u with | some d => listy d | none => false)
  | _ => false
theorem appT {C : Ctx} {t u s : Nat} (h : appB C t u s = true) : AppT C t u s := by
  unfold appB at h
  split at h
  · rename_i e he
    obtain ⟨h1, h2⟩ := (Bool.and_eq_true _ _).mp h
    split at h1
    · rename_i i hi
      obtain ⟨h3, h4⟩ := (Bool.and_eq_true _ _).mp h1
      obtain ⟨h4, h5⟩ := (Bool.and_eq_true _ _).mp h4
      split at h2
      · rename_i d hd
        exact ⟨e, i, d, he, hi, Nat.eq_of_beq_eq_true h3, Nat.le_of_ble_eq_true h4, hd, h2, h5⟩
      · simp at h2
    · simp at h1
  · simp at h
end Go.Am

namespace Go.Am
open Go Go.Proofs
def eqF (d : Nat) (xs ys : Array Value) : List (TypeId × Nat) → Sem Bool
  | [] => pure true
  | (t, o) :: fs => do
    let a ← part t xs o
    let b ← part t ys o
    let r ← Op.equalIn d t a b
    if (!r) = true then pure false else eqF d xs ys fs
theorem eqFields_eq (d : Nat) (xs ys : Array Value) : ∀ fs : List Field, fs.all (fun f => f.name != "_") = true → Op.eqFields d xs ys fs = eqF d xs ys (fs.map fun f => (f.type, f.offset))
  | [], _ => rfl
  | f :: fs, h => by
    rw [List.all_cons, Bool.and_eq_true] at h
    have hn : f.name ≠ "_" := by simpa using h.1
    rw [Op.eqFields, if_pos hn, List.map_cons, eqF, eqFields_eq d xs ys fs h.2]
section
variable {P : Program} {w : World} {d : Nat}
theorem eqF_cons {t : TypeId} {o : Nat} {fs : List (TypeId × Nat)} {xs ys : Array Value} {a b : Value} {r : Bool} (ha : (part t xs o).run P w = .ok a w) (hb : (part t ys o).run P w = .ok b w) (hr : (Op.equalIn d t a b).run P w = .ok r w) :
    (eqF d xs ys ((t, o) :: fs)).run P w = if r = true then (eqF d xs ys fs).run P w else .ok false w := by
  simp only [eqF, Sem.run_bind, ha, hb, hr, Result.andThen_ok]
  cases r <;> simp
theorem eq_int {t : TypeId} {k : IntKind} (hu : P.underlying t = some (.int k)) (q : IntKind) (a b : Int) : (Op.equalIn (d + 1) t (.int q a) (.int q b)).run P w = .ok (a == b) w := by
  simp [Op.equalIn, run_underlying hu]
theorem part_scalar {t : TypeId} {k : TypeDesc} (hu : P.underlying t = some k) (hk : aggDesc k = false) {xs : Array Value} {o : Nat} {v : Value} (hv : xs[o]? = some v) : (part t xs o).run P w = .ok v w := by
  have : (isAgg t).run P w = .ok false w := by
    unfold isAgg; simp only [Sem.run_bind, run_underlying hu, Result.andThen_ok]
    cases k <;> first | rfl | (simp [aggDesc] at hk)
  unfold part
  simp [this, hv]
theorem eq_struct {t : TypeId} {fs : List (TypeId × Nat)} {xs ys : Array Value} (hu : P.underlying t = some (.struct (P.fieldsOf t))) (hp : P.stoodInHeld t = false) (hn : (P.fieldsOf t).toList.all (fun f => f.name != "_") = true) (hf : ((P.fieldsOf t).toList.map fun f => (f.type, f.offset)) = fs) :
    (Op.equalIn (d + 1) t (.agg xs) (.agg ys)).run P w = (eqF d xs ys fs).run P w := by
  rw [run_equalIn_struct w d t xs ys hu hp, eqFields_eq d xs ys _ hn, hf]
end
theorem and_or {a b : Int} {r : Bool} {X : Result Bool} {w : World} (h1 : a = b → X = .ok r w) (h2 : ¬ a = b → r = false) : (if (a == b) = true then X else .ok false w) = .ok r w := by
  by_cases h : a = b
  · rw [if_pos (by simpa using h)]; exact h1 h
  · rw [if_neg (by simpa using h), h2 h]
theorem and_orB {a b : Bool} {r : Bool} {X : Result Bool} {w : World} (h1 : a = b → X = .ok r w) (h2 : ¬ a = b → r = false) : (if (a == b) = true then X else .ok false w) = .ok r w := by
  by_cases h : a = b
  · rw [if_pos (by simpa using h)]; exact h1 h
  · rw [if_neg (by simpa using h), h2 h]
theorem like_cons {z v : Value} {l m : List Value} (h : likeAll (z :: l) m = true) : ∃ y r, m = y :: r ∧ sameKind z y = true ∧ likeAll l r = true := by
  cases m with
  | nil => simp [likeAll, lrec_cons] at h
  | cons y r =>
    have h : (match sameKind z y with | true => likeAll l r | false => false) = true := h
    cases hk : sameKind z y with
    | false => rw [hk] at h; simp at h
    | true => rw [hk] at h; exact ⟨y, r, rfl, hk, h⟩
theorem like_int {k : IntKind} {n : Int} {l m : List Value} (h : likeAll (.int k n :: l) m = true) : ∃ a r, m = .int k a :: r ∧ likeAll l r = true := by
  obtain ⟨y, r, e, h1, h2⟩ := like_cons (v := .int k n) h
  cases y <;> simp [sameKind] at h1
  subst h1
  exact ⟨_, r, e, h2⟩
theorem like_bool {b : Bool} {l m : List Value} (h : likeAll (.bool b :: l) m = true) : ∃ a r, m = .bool a :: r ∧ likeAll l r = true := by
  obtain ⟨y, r, e, h1, h2⟩ := like_cons (v := .bool b) h
  cases y <;> simp [sameKind] at h1
  exact ⟨_, r, e, h2⟩
theorem like_nil {m : List Value} (h : likeAll [] m = true) : m = [] := by
  cases m with
  | nil => rfl
  | cons y r => simp [likeAll, lrec_nil] at h
theorem arr_of {xs : Array Value} {l : List Value} (h : xs.toList = l) : xs = ⟨l⟩ := by rw [← h]
theorem ce_int {k : IntKind} {a b : Int} {l m : List Value} {r : Bool} (h : cellsEq (.int k a :: l) (.int k b :: m) = some r) : (a = b → cellsEq l m = some r) ∧ (¬ a = b → r = false) := by
  have h : (match cellEq (.int k a) (.int k b) with | some true => cellsEq l m | some false => some false | none => none) = some r := h
  simp only [cellEq, if_true] at h
  constructor
  · rintro rfl; simpa using h
  · intro hn
    have : (a == b) = false := by simpa using hn
    rw [this] at h; simpa using h.symm
theorem ce_bool {a b : Bool} {l m : List Value} {r : Bool} (h : cellsEq (.bool a :: l) (.bool b :: m) = some r) : (a = b → cellsEq l m = some r) ∧ (¬ a = b → r = false) := by
  have h : (match cellEq (.bool a) (.bool b) with | some true => cellsEq l m | some false => some false | none => none) = some r := h
  simp only [cellEq] at h
  constructor
  · rintro rfl; simpa using h
  · intro hn
    have : (a == b) = false := by simpa using hn
    rw [this] at h; simpa using h.symm
theorem ce_nil {r : Bool} (h : cellsEq [] [] = some r) : r = true := by
  have : some true = some r := h
  simpa using this.symm
theorem key_scalar {P : Program} {w : World} {t : TypeId} {k : TypeDesc} (hu : P.underlying t = some k) (hk : (match k with | .int _ => true | .bool => true | .string => true | _ => false) = true) {v : Value} (hv : basic v = true) (em : Bool) (d : Nat) : (Instr.checkKey em (d + 1) t v).run P w = .ok () w := by
  rw [Instr.checkKey]
  simp only [Sem.run_bind, run_underlying hu, Result.andThen_ok]
  cases k <;> first | (simp at hk; done) | (cases v <;> first | rfl | (simp [basic] at hv; done))
theorem key_struct {P : Program} {w : World} {t : TypeId} {fs : List (TypeId × Nat)} {xs : Array Value} {em : Bool} {d : Nat} (hu : P.underlying t = some (.struct (P.fieldsOf t))) (hn : (P.fieldsOf t).toList.all (fun f => f.name != "_") = true) (hf : ((P.fieldsOf t).toList.map fun f => (f.type, f.offset)) = fs)
    (h : ∀ p ∈ fs, ∃ a, (part p.1 xs p.2).run P w = .ok a w ∧ (Instr.checkKey em d p.1 a).run P w = .ok () w) : (Instr.checkKey em (d + 1) t (.agg xs)).run P w = .ok () w := by
  rw [Instr.checkKey]
  simp only [Sem.run_bind, run_underlying hu, Result.andThen_ok]
  rw [← Array.forIn_toList]
  have each : ∀ f ∈ (P.fieldsOf t).toList, f.name ≠ "_" ∧ ∃ a, (part f.type xs f.offset).run P w = .ok a w ∧ (Instr.checkKey em d f.type a).run P w = .ok () w := fun f hf' => by
    refine ⟨by simpa using List.all_eq_true.1 hn f hf', h (f.type, f.offset) ?_⟩
    rw [← hf]; exact List.mem_map.2 ⟨f, hf', rfl⟩
  clear hf hn hu h
  generalize (P.fieldsOf t).toList = L at each
  induction L with
  | nil => simp
  | cons f L ih =>
    obtain ⟨hn, a, p1, p2⟩ := each f (by simp)
    simp only [List.forIn_cons, Sem.run_bind, hn, ne_eq, not_false_eq_true, if_true, Result.andThen_ok, p1, p2, Sem.run_pure]
    exact ih (fun y hy => each y (by simp [hy]))
section
variable {t : TypeId} (hu : Tryz.prog.underlying t = some (.struct (Tryz.prog.fieldsOf t))) (hp : Tryz.prog.stoodInHeld t = false) (hn : (Tryz.prog.fieldsOf t).toList.all (fun f => f.name != "_") = true) (hf : ((Tryz.prog.fieldsOf t).toList.map fun f => (f.type, f.offset)) = [(3, 0), (3, 1)])
include hu hn hf
include hp in
theorem eq_two (d : Nat) (w : World) {a b a' b' : Int} {r : Bool} (h : cellsEq [.int .i64 a, .int .i64 b] [.int .i64 a', .int .i64 b'] = some r) :
    (Op.equalIn (d + 2) t (.agg ⟨[.int .i64 a, .int .i64 b]⟩) (.agg ⟨[.int .i64 a', .int .i64 b']⟩)).run Tryz.prog w = .ok r w := by
  rw [eq_struct hu hp hn hf]
  rw [eqF_cons (part_scalar Tryz.underlying3 rfl rfl) (part_scalar Tryz.underlying3 rfl rfl) (eq_int Tryz.underlying3 _ _ _)]
  refine and_or (fun he => ?_) (ce_int h).2
  have h := (ce_int h).1 he
  rw [eqF_cons (part_scalar Tryz.underlying3 rfl rfl) (part_scalar Tryz.underlying3 rfl rfl) (eq_int Tryz.underlying3 _ _ _)]
  refine and_or (fun he => ?_) (ce_int h).2
  have h := (ce_int h).1 he
  rw [ce_nil h]; rfl
theorem key_two (em : Bool) (d : Nat) (w : World) (a b : Int) : (Instr.checkKey em (d + 2) t (.agg ⟨[.int .i64 a, .int .i64 b]⟩)).run Tryz.prog w = .ok () w := by
  refine key_struct hu hn hf fun p hp => ?_
  simp only [List.mem_cons, List.not_mem_nil, or_false] at hp
  rcases hp with rfl | rfl
  · exact ⟨_, part_scalar Tryz.underlying3 rfl rfl, key_scalar Tryz.underlying3 rfl rfl _ _⟩
  · exact ⟨_, part_scalar Tryz.underlying3 rfl rfl, key_scalar Tryz.underlying3 rfl rfl _ _⟩
include hp in
theorem spec_two (hg : Tryz.prog.eqGuardType Tryz.prog.depth t = false) : EqSpec Tryz.prog t [.int .i64 0, .int .i64 0] where
  eq := by
    intro xs ys r hx hy h w
    obtain ⟨a, l1, e, hx1⟩ := like_int hx
    obtain ⟨b, l2, qhx2, hx2⟩ := like_int hx1
    have qn := like_nil hx2
    subst qn
    subst qhx2
    rw [e] at hy
    obtain ⟨a', l1, e', hy1⟩ := like_int hy
    obtain ⟨b', l2, qhy2, hy2⟩ := like_int hy1
    have qn := like_nil hy2
    subst qn
    subst qhy2
    rw [e, e'] at h
    rw [arr_of e, arr_of e']
    exact eq_two hu hp hn hf 9998 w h
  guard := hg
  key := by
    intro cs n _ _ hx em w
    obtain ⟨a, l1, e, hx1⟩ := like_int hx
    obtain ⟨b, l2, qhx2, hx2⟩ := like_int hx1
    have qn := like_nil hx2
    subst qn
    subst qhx2
    rw [arr_of e]
    exact key_two hu hn hf em 9998 w a b
end
theorem spec_letter_pair : EqSpec Tryz.prog 221 [.int .i64 0, .int .i64 0] := spec_two (by kernel_rfl) (by kernel_rfl) (by kernel_rfl) (by kernel_rfl) (by kernel_rfl)
theorem spec_bench_end : EqSpec Tryz.prog 285 [.int .i64 0, .int .i64 0] := spec_two (by kernel_rfl) (by kernel_rfl) (by kernel_rfl) (by kernel_rfl) (by kernel_rfl)
theorem spec_tint_spot : EqSpec Tryz.prog 344 [.int .i64 0, .int .i64 0] := spec_two (by kernel_rfl) (by kernel_rfl) (by kernel_rfl) (by kernel_rfl) (by kernel_rfl)
theorem spec_coat_step : EqSpec Tryz.prog 387 [.int .i64 0, .int .i64 0] := spec_two (by kernel_rfl) (by kernel_rfl) (by kernel_rfl) (by kernel_rfl) (by kernel_rfl)
theorem eq41 (d : Nat) (w : World) {a b c e a' b' c' e' : Int} {f f' : Bool} {r : Bool} (h : cellsEq [.int .i64 a, .int .i64 b, .int .i64 c, .int .i64 e, .bool f] [.int .i64 a', .int .i64 b', .int .i64 c', .int .i64 e', .bool f'] = some r) :
    (Op.equalIn (d + 2) 166 (.agg ⟨[.int .i64 a, .int .i64 b, .int .i64 c, .int .i64 e, .bool f]⟩) (.agg ⟨[.int .i64 a', .int .i64 b', .int .i64 c', .int .i64 e', .bool f']⟩)).run Tryz.prog w = .ok r w := by
  rw [eq_struct (fs := [(163, 0), (3, 1), (3, 2), (164, 3), (4, 4)]) (by kernel_rfl) (by kernel_rfl) (by kernel_rfl) (by kernel_rfl)]
  rw [eqF_cons (part_scalar Tryz.underlying163 rfl rfl) (part_scalar Tryz.underlying163 rfl rfl) (eq_int Tryz.underlying163 _ _ _)]
  refine and_or (fun he => ?_) (ce_int h).2
  have h := (ce_int h).1 he
  rw [eqF_cons (part_scalar Tryz.underlying3 rfl rfl) (part_scalar Tryz.underlying3 rfl rfl) (eq_int Tryz.underlying3 _ _ _)]
  refine and_or (fun he => ?_) (ce_int h).2
  have h := (ce_int h).1 he
  rw [eqF_cons (part_scalar Tryz.underlying3 rfl rfl) (part_scalar Tryz.underlying3 rfl rfl) (eq_int Tryz.underlying3 _ _ _)]
  refine and_or (fun he => ?_) (ce_int h).2
  have h := (ce_int h).1 he
  rw [eqF_cons (part_scalar Tryz.underlying164 rfl rfl) (part_scalar Tryz.underlying164 rfl rfl) (eq_int Tryz.underlying164 _ _ _)]
  refine and_or (fun he => ?_) (ce_int h).2
  have h := (ce_int h).1 he
  rw [eqF_cons (part_scalar Tryz.underlying4 rfl rfl) (part_scalar Tryz.underlying4 rfl rfl) (run_equalIn_bool w _ _ _ _ Tryz.underlying4)]
  refine and_orB (fun he => ?_) (ce_bool h).2
  have h := (ce_bool h).1 he
  rw [ce_nil h]; rfl
theorem key41 (em : Bool) (d : Nat) (w : World) (a b c e : Int) (f : Bool) : (Instr.checkKey em (d + 2) 166 (.agg ⟨[.int .i64 a, .int .i64 b, .int .i64 c, .int .i64 e, .bool f]⟩)).run Tryz.prog w = .ok () w := by
  refine key_struct (fs := [(163, 0), (3, 1), (3, 2), (164, 3), (4, 4)]) (by kernel_rfl) (by kernel_rfl) (by kernel_rfl) fun p hp => ?_
  simp only [List.mem_cons, List.not_mem_nil, or_false] at hp
  rcases hp with rfl | rfl | rfl | rfl | rfl
  · exact ⟨_, part_scalar Tryz.underlying163 rfl rfl, key_scalar Tryz.underlying163 rfl rfl _ _⟩
  · exact ⟨_, part_scalar Tryz.underlying3 rfl rfl, key_scalar Tryz.underlying3 rfl rfl _ _⟩
  · exact ⟨_, part_scalar Tryz.underlying3 rfl rfl, key_scalar Tryz.underlying3 rfl rfl _ _⟩
  · exact ⟨_, part_scalar Tryz.underlying164 rfl rfl, key_scalar Tryz.underlying164 rfl rfl _ _⟩
  · exact ⟨_, part_scalar Tryz.underlying4 rfl rfl, key_scalar Tryz.underlying4 rfl rfl _ _⟩
theorem ce_split {l m l' m' : List Value} {r : Bool} (hl : l.length = l'.length) (h : cellsEq (l ++ m) (l' ++ m') = some r) : ∃ r1, cellsEq l l' = some r1 ∧ (r1 = true → cellsEq m m' = some r) ∧ (r1 = false → r = false) := by
  induction l generalizing l' with
  | nil =>
    have : l' = [] := List.eq_nil_of_length_eq_zero hl.symm
    subst this
    exact ⟨true, rfl, fun _ => h, fun h => by simp at h⟩
  | cons x l ih =>
    cases l' with
    | nil => simp at hl
    | cons y l' =>
      have h : (match cellEq x y with | some true => cellsEq (l ++ m) (l' ++ m') | some false => some false | none => none) = some r := h
      have e : cellsEq (x :: l) (y :: l') = (match cellEq x y with | some true => cellsEq l l' | some false => some false | none => none) := rfl
      cases hc : cellEq x y with
      | none => rw [hc] at h; simp at h
      | some q =>
        rw [hc] at h
        rw [e, hc]
        cases q with
        | false => simp at h; exact ⟨false, rfl, fun h => by simp at h, fun _ => h⟩
        | true => exact ih (by simpa using hl) h
theorem nest {r1 r : Bool} {X : Result Bool} {w : World} (h1 : r1 = true → X = .ok r w) (h2 : r1 = false → r = false) : (if r1 = true then X else .ok false w) = .ok r w := by
  cases r1
  · rw [if_neg (by simp), h2 rfl]
  · rw [if_pos rfl]; exact h1 rfl
theorem eq154 (d : Nat) (w : World) {a b c e a' b' c' e' q q' : Int} {f f' : Bool} {r : Bool} (h : cellsEq [.int .i64 a, .int .i64 b, .int .i64 c, .int .i64 e, .bool f, .int .i64 q] [.int .i64 a', .int .i64 b', .int .i64 c', .int .i64 e', .bool f', .int .i64 q'] = some r) :
    (Op.equalIn (d + 3) 353 (.agg ⟨[.int .i64 a, .int .i64 b, .int .i64 c, .int .i64 e, .bool f, .int .i64 q]⟩) (.agg ⟨[.int .i64 a', .int .i64 b', .int .i64 c', .int .i64 e', .bool f', .int .i64 q']⟩)).run Tryz.prog w = .ok r w := by
  rw [eq_struct (fs := [(166, 0), (3, 5)]) (by kernel_rfl) (by kernel_rfl) (by kernel_rfl) (by kernel_rfl)]
  obtain ⟨r1, h1, h2, h3⟩ := ce_split (l := [.int .i64 a, .int .i64 b, .int .i64 c, .int .i64 e, .bool f]) (m := [.int .i64 q]) (l' := [.int .i64 a', .int .i64 b', .int .i64 c', .int .i64 e', .bool f']) (m' := [.int .i64 q']) rfl h
  rw [eqF_cons (a := .agg ⟨[.int .i64 a, .int .i64 b, .int .i64 c, .int .i64 e, .bool f]⟩) (b := .agg ⟨[.int .i64 a', .int .i64 b', .int .i64 c', .int .i64 e', .bool f']⟩) (by kernel_rfl) (by kernel_rfl) (eq41 d w h1)]
  refine nest (fun he => ?_) h3
  have h := h2 he
  rw [eqF_cons (part_scalar Tryz.underlying3 rfl rfl) (part_scalar Tryz.underlying3 rfl rfl) (eq_int Tryz.underlying3 _ _ _)]
  refine and_or (fun he => ?_) (ce_int h).2
  have h := (ce_int h).1 he
  rw [ce_nil h]; rfl
theorem key154 (em : Bool) (d : Nat) (w : World) (a b c e : Int) (f : Bool) (q : Int) : (Instr.checkKey em (d + 3) 353 (.agg ⟨[.int .i64 a, .int .i64 b, .int .i64 c, .int .i64 e, .bool f, .int .i64 q]⟩)).run Tryz.prog w = .ok () w := by
  refine key_struct (fs := [(166, 0), (3, 5)]) (by kernel_rfl) (by kernel_rfl) (by kernel_rfl) fun p hp => ?_
  simp only [List.mem_cons, List.not_mem_nil, or_false] at hp
  rcases hp with rfl | rfl
  · exact ⟨.agg ⟨[.int .i64 a, .int .i64 b, .int .i64 c, .int .i64 e, .bool f]⟩, by kernel_rfl, key41 em d w a b c e f⟩
  · exact ⟨_, part_scalar Tryz.underlying3 rfl rfl, key_scalar Tryz.underlying3 rfl rfl _ _⟩
theorem spec154 : EqSpec Tryz.prog 353 [.int .i64 0, .int .i64 0, .int .i64 0, .int .i64 0, .bool false, .int .i64 0] where
  eq := by
    intro xs ys r hx hy h w
    obtain ⟨a, l1, e, hx1⟩ := like_int hx
    obtain ⟨b, l2, qhx2, hx2⟩ := like_int hx1
    obtain ⟨c, l3, qhx3, hx3⟩ := like_int hx2
    obtain ⟨d, l4, qhx4, hx4⟩ := like_int hx3
    obtain ⟨f, l5, qhx5, hx5⟩ := like_bool hx4
    obtain ⟨q, l6, qhx6, hx6⟩ := like_int hx5
    have qn := like_nil hx6
    subst qn
    subst qhx6
    subst qhx5
    subst qhx4
    subst qhx3
    subst qhx2
    rw [e] at hy
    obtain ⟨a', l1, e', hy1⟩ := like_int hy
    obtain ⟨b', l2, qhy2, hy2⟩ := like_int hy1
    obtain ⟨c', l3, qhy3, hy3⟩ := like_int hy2
    obtain ⟨d', l4, qhy4, hy4⟩ := like_int hy3
    obtain ⟨f', l5, qhy5, hy5⟩ := like_bool hy4
    obtain ⟨q', l6, qhy6, hy6⟩ := like_int hy5
    have qn := like_nil hy6
    subst qn
    subst qhy6
    subst qhy5
    subst qhy4
    subst qhy3
    subst qhy2
    rw [e, e'] at h
    rw [arr_of e, arr_of e']
    exact eq154 9997 w h
  guard := by kernel_rfl
  key := by
    intro cs n _ _ hx em w
    obtain ⟨a, l1, e, hx1⟩ := like_int hx
    obtain ⟨b, l2, qhx2, hx2⟩ := like_int hx1
    obtain ⟨c, l3, qhx3, hx3⟩ := like_int hx2
    obtain ⟨d, l4, qhx4, hx4⟩ := like_int hx3
    obtain ⟨f, l5, qhx5, hx5⟩ := like_bool hx4
    obtain ⟨q, l6, qhx6, hx6⟩ := like_int hx5
    have qn := like_nil hx6
    subst qn
    subst qhx6
    subst qhx5
    subst qhx4
    subst qhx3
    subst qhx2
    rw [arr_of e]
    exact key154 em 9997 w a b c d f q
section
variable {t : TypeId} (hu : Tryz.prog.underlying t = some (.struct (Tryz.prog.fieldsOf t))) (hp : Tryz.prog.stoodInHeld t = false) (hn : (Tryz.prog.fieldsOf t).toList.all (fun f => f.name != "_") = true) (hf : ((Tryz.prog.fieldsOf t).toList.map fun f => (f.type, f.offset)) = [(3, 0), (3, 1), (3, 2)])
include hu hn hf
include hp in
theorem eq_three (d : Nat) (w : World) {a b c a' b' c' : Int} {r : Bool} (h : cellsEq [.int .i64 a, .int .i64 b, .int .i64 c] [.int .i64 a', .int .i64 b', .int .i64 c'] = some r) :
    (Op.equalIn (d + 2) t (.agg ⟨[.int .i64 a, .int .i64 b, .int .i64 c]⟩) (.agg ⟨[.int .i64 a', .int .i64 b', .int .i64 c']⟩)).run Tryz.prog w = .ok r w := by
  rw [eq_struct hu hp hn hf]
  rw [eqF_cons (part_scalar Tryz.underlying3 rfl rfl) (part_scalar Tryz.underlying3 rfl rfl) (eq_int Tryz.underlying3 _ _ _)]
  refine and_or (fun he => ?_) (ce_int h).2
  have h := (ce_int h).1 he
  rw [eqF_cons (part_scalar Tryz.underlying3 rfl rfl) (part_scalar Tryz.underlying3 rfl rfl) (eq_int Tryz.underlying3 _ _ _)]
  refine and_or (fun he => ?_) (ce_int h).2
  have h := (ce_int h).1 he
  rw [eqF_cons (part_scalar Tryz.underlying3 rfl rfl) (part_scalar Tryz.underlying3 rfl rfl) (eq_int Tryz.underlying3 _ _ _)]
  refine and_or (fun he => ?_) (ce_int h).2
  have h := (ce_int h).1 he
  rw [ce_nil h]; rfl
theorem key_three (em : Bool) (d : Nat) (w : World) (a b c : Int) : (Instr.checkKey em (d + 2) t (.agg ⟨[.int .i64 a, .int .i64 b, .int .i64 c]⟩)).run Tryz.prog w = .ok () w := by
  refine key_struct hu hn hf fun p hp => ?_
  simp only [List.mem_cons, List.not_mem_nil, or_false] at hp
  rcases hp with rfl | rfl | rfl
  · exact ⟨_, part_scalar Tryz.underlying3 rfl rfl, key_scalar Tryz.underlying3 rfl rfl _ _⟩
  · exact ⟨_, part_scalar Tryz.underlying3 rfl rfl, key_scalar Tryz.underlying3 rfl rfl _ _⟩
  · exact ⟨_, part_scalar Tryz.underlying3 rfl rfl, key_scalar Tryz.underlying3 rfl rfl _ _⟩
include hp in
theorem spec_three (hg : Tryz.prog.eqGuardType Tryz.prog.depth t = false) : EqSpec Tryz.prog t [.int .i64 0, .int .i64 0, .int .i64 0] where
  eq := by
    intro xs ys r hx hy h w
    obtain ⟨a, l1, e, hx1⟩ := like_int hx
    obtain ⟨b, l2, qhx2, hx2⟩ := like_int hx1
    obtain ⟨c, l3, qhx3, hx3⟩ := like_int hx2
    have qn := like_nil hx3
    subst qn
    subst qhx3
    subst qhx2
    rw [e] at hy
    obtain ⟨a', l1, e', hy1⟩ := like_int hy
    obtain ⟨b', l2, qhy2, hy2⟩ := like_int hy1
    obtain ⟨c', l3, qhy3, hy3⟩ := like_int hy2
    have qn := like_nil hy3
    subst qn
    subst qhy3
    subst qhy2
    rw [e, e'] at h
    rw [arr_of e, arr_of e']
    exact eq_three hu hp hn hf 9998 w h
  guard := hg
  key := by
    intro cs n _ _ hx em w
    obtain ⟨a, l1, e, hx1⟩ := like_int hx
    obtain ⟨b, l2, qhx2, hx2⟩ := like_int hx1
    obtain ⟨c, l3, qhx3, hx3⟩ := like_int hx2
    have qn := like_nil hx3
    subst qn
    subst qhx3
    subst qhx2
    rw [arr_of e]
    exact key_three hu hn hf em 9998 w a b c
end
theorem spec_leaf_rest : EqSpec Tryz.prog 428 [.int .i64 0, .int .i64 0, .int .i64 0] := spec_three (by kernel_rfl) (by kernel_rfl) (by kernel_rfl) (by kernel_rfl) (by kernel_rfl)
end Go.Am
