/- The abstract machine over this program, part 37: its context: functions of the program at the data of the document's examples. -/
import Derived.Test.YtlflfbnnjlkkcaaGreatProg
import Derived.Test.YtlflfbnnjlkkcaaGreatJAm36
import Derived.Test.YtlflfbnnjlkkcaaGreatJK0
import Derived.KernelRfl
set_option linter.unusedSimpArgs false
set_option linter.unusedVariables false
namespace Go.Am
open Go Go.Proofs

noncomputable def FT : NT Func := NT.ofFn (fun i => Tryz.prog.funcs[i]?) 9
noncomputable def TT : NT TypeInfo := NT.ofFn (fun i => Tryz.prog.types[i]?) 9
/-- struct types that are compared, or are keys of maps -/
noncomputable def eqTypes (t : Nat) : Bool := Nat.beq t 221 || (Nat.beq t 285 || (Nat.beq t 353 || (Nat.beq t 387 || (Nat.beq t 344 || Nat.beq t 428))))
noncomputable def C0 : Ctx := Ctx.mk Tryz.prog FT TT eqTypes fun _ => none

/- THE EXAMPLES' DATA -/
noncomputable def plI (l : List Int) (r : DT) : DT := lrec r (fun n _ ih => .pl (.int .i64 n) ih) l
noncomputable def listT (l : List Int) (r : DT) : DT := match l with | [] => .pl (.slice none 0 0) r | _ :: _ => .sl l.length 1 (plI l .nil) r
noncomputable def listsT (l : List (List Int)) : DT := lrec .nil (fun x _ ih => listT x ih) l
noncomputable def suiteG (wide : Int) (dry : List Int) (spots : List (List Int)) (stock : List Int) (r : DT) : DT := (.sl 3 1 (plI [6, 4, 8] .nil) (.sl 2 4 (plI [0, 1, 1, 3, 2, 0, 0, 2] .nil) (plI [2, 4, 5, 8, 3] (.sl 2 3 (.sl 3 1 (plI [2, 0, 1] .nil) (.pl (.slice none 0 0) (.pl (.bool false) (.sl 2 1 (plI [0, 2] .nil) (.sl 1 1 (plI [1] .nil) (.pl (.bool true) .nil)))))) (.pl (.int .i64 wide) (plI [2] (.sl 8 2 (plI dry .nil) (.sl 8 1 (plI [0, 1, 2, 3, 4, 5, 6, 7] .nil) (.sl 3 2 (plI [9, 20, 10, 20, 8, 30] .nil) (plI [4] (.sl spots.length 1 (listsT spots) (plI [1] (.sl 2 1 (plI [5, 6] .nil) (.sl 4 5 (plI [1] (.pl (.bool true) (plI [2, 2] (.pl (.slice none 0 0) (plI [0] (.pl (.bool false) (plI [2, 3] (.pl (.slice none 0 0) (plI [0] (.pl (.bool true) (plI [1, 2] (.sl 1 1 (plI [1] .nil) (plI [1] (.pl (.bool false) (plI [1, 3] (.sl 1 1 (plI [0] .nil) .nil)))))))))))))))) (plI [60, 40, 20, 1, 2, 1, 1, 0, 0, 5, 5, 5] (.sl 3 6 (plI [80, 82, 20, 20, 0, 2, 20, 22, 60, 60, 40, 40, 50, 50, 10, 12, 30, 30] .nil) (listT stock (.sl 2 1 (plI [0, 25] .nil) (.sl 2 5 (plI [7, 10, 3, 4, 0, 5, 6, 2, 2, 1] .nil) (.sl 3 5 (plI [1, 5, 3, 3] (.pl (.bool true) (plI [2, 5, 4, 1] (.pl (.bool false) (plI [3, 4, 1, 2] (.pl (.bool true) .nil)))))) r))))))))))))))))))))
noncomputable def suiteT : DT := suiteG 21 [6, 8, 4, 6, 8, 10, 2, 4, 6, 6, 5, 9, 8, 12, 4, 4] [[0, 1], [2, 1], [2, 3]] [5, 5, 5] .nil
noncomputable def benchCheck0A : List (Bool × DT) := [(true, (plI [1] (.sl 2 1 (plI [5, 6] .nil) (.sl 4 5 (plI [1] (.pl (.bool true) (plI [2, 2] (.pl (.slice none 0 0) (plI [0] (.pl (.bool false) (plI [2, 3] (.pl (.slice none 0 0) (plI [0] (.pl (.bool true) (plI [1, 2] (.sl 1 1 (plI [1] .nil) (plI [1] (.pl (.bool false) (plI [1, 3] (.sl 1 1 (plI [0] .nil) .nil)))))))))))))))) .nil))))]
noncomputable def benchCheck0R : List (Bool × DT) := [(false, (plI [0] .nil))]
noncomputable def benchCheckSpec : Spec := closedSpec benchCheck0A benchCheck0R noSpec
noncomputable def priceCheck0A : List (Bool × DT) := [(true, (.sl 2 1 (plI [0, 25] .nil) (.sl 2 5 (plI [7, 10, 3, 4, 0, 5, 6, 2, 2, 1] .nil) (.sl 3 5 (plI [1, 5, 3, 3] (.pl (.bool true) (plI [2, 5, 4, 1] (.pl (.bool false) (plI [3, 4, 1, 2] (.pl (.bool true) .nil)))))) .nil))))]
noncomputable def priceCheck0R : List (Bool × DT) := [(false, (plI [0] .nil))]
noncomputable def priceCheckSpec : Spec := closedSpec priceCheck0A priceCheck0R noSpec
noncomputable def letterRows0A : List (Bool × DT) := [(true, (.sl 3 1 (plI [6, 4, 8] .nil) (.sl 2 4 (plI [0, 1, 1, 3, 2, 0, 0, 2] .nil) (plI [2, 4, 5, 8, 3] (.sl 2 3 (.sl 3 1 (plI [2, 0, 1] .nil) (.pl (.slice none 0 0) (.pl (.bool false) (.sl 2 1 (plI [0, 2] .nil) (.sl 1 1 (plI [1] .nil) (.pl (.bool true) .nil)))))) (plI [21, 2] .nil))))))]
noncomputable def letterRows0R : List (Bool × DT) := [(false, (plI [2] .nil)), (false, (plI [0] .nil))]
noncomputable def letterRowsSpec : Spec := closedSpec letterRows0A letterRows0R noSpec
noncomputable def coatFirst0A : List (Bool × DT) := [(true, (.sl 8 2 (plI [6, 8, 4, 6, 8, 10, 2, 4, 6, 6, 5, 9, 8, 12, 4, 4] .nil) (.sl 8 1 (plI [0, 1, 2, 3, 4, 5, 6, 7] .nil) (.sl 3 2 (plI [9, 20, 10, 20, 8, 30] .nil) .nil))))]
noncomputable def coatFirst0R : List (Bool × DT) := [(false, (.sl 3 1 (plI [0, 2, 4] .nil) .nil)), (false, (plI [0] .nil))]
noncomputable def coatFirstSpec : Spec := closedSpec coatFirst0A coatFirst0R noSpec
noncomputable def stripFirst0A : List (Bool × DT) := [(true, (plI [4] (.sl 3 1 (.sl 2 1 (plI [0, 1] .nil) (.sl 2 1 (plI [2, 1] .nil) (.sl 2 1 (plI [2, 3] .nil) .nil))) .nil)))]
noncomputable def stripFirst0R : List (Bool × DT) := [(false, (.sl 4 1 (plI [0, 2, 1, 3] .nil) .nil)), (false, (plI [0] .nil))]
noncomputable def stripFirstSpec : Spec := closedSpec stripFirst0A stripFirst0R noSpec
noncomputable def repeat4A : List (Bool × DT) := [(false, .sl 1 1 (plI [-1] .nil) .nil), (false, plI [4] .nil)]
noncomputable def repeat4R : List (Bool × DT) := [(false, .sl 4 1 (plI [-1, -1, -1, -1] .nil) .nil)]
noncomputable def repeat2A : List (Bool × DT) := [(false, .sl 1 1 (plI [-1] .nil) .nil), (false, plI [2] .nil)]
noncomputable def repeat2R : List (Bool × DT) := [(false, .sl 2 1 (plI [-1, -1] .nil) .nil)]
noncomputable def repeatSpec : Spec := closedSpec repeat4A repeat4R (closedSpec repeat2A repeat2R noSpec)
noncomputable def benchBest0R : List (Bool × DT) := [(false, .sl 4 1 (plI [0, 1, 0, 1] .nil) .nil), (false, plI [6] .nil), (false, plI [0] .nil)]
noncomputable def benchBestSpec : Spec := closedSpec benchCheck0A benchBest0R noSpec
noncomputable def benchEnds0A : List (Bool × DT) := benchCheck0A ++ [(false, .sl 4 1 (plI [0, 1, 0, 1] .nil) .nil)]
noncomputable def benchEnds0R : List (Bool × DT) := [(false, .sl 4 2 (plI [2, 2, 2, 3, 3, 5, 3, 6] .nil) .nil), (false, plI [0] .nil)]
noncomputable def benchEndsSpec : Spec := closedSpec benchEnds0A benchEnds0R noSpec
noncomputable def suiteR : List (Bool × DT) := [(true, suiteT)]
noncomputable def suiteSpec : Spec := closedSpec [] suiteR noSpec
/-- the document's example: 'known20' is true and changes nothing -/
noncomputable def knownSpec : Spec
  | [], h => some (.ret (.bool true) h none)
  | _, _ => none
noncomputable def isTrue : Option FRes → Bool
  | some (.ret (.bool true) _ _) => true
  | _ => false
/-- what functions of the program do at these data -/
noncomputable def specs1 (f : Nat) : Option Spec := match Nat.beq f 7 with | true => some knownSpec | false => match Nat.beq f 18 with | true => some suiteSpec | false => match Nat.beq f 84 with | true => some benchCheckSpec | false => match Nat.beq f 14 with | true => some priceCheckSpec | false => match Nat.beq f 195 with | true => some letterRowsSpec | false => match Nat.beq f 10 with | true => some coatFirstSpec | false => match Nat.beq f 11 with | true => some stripFirstSpec | false => match Nat.beq f 156 with | true => some repeatSpec | false => match Nat.beq f 12 with | true => some benchBestSpec | false => match Nat.beq f 24 with | true => some benchEndsSpec | false => none
noncomputable def CC : Ctx := Ctx.mk Tryz.prog FT TT eqTypes specs1
noncomputable def aggAt (C : Ctx) (t : Nat) : Bool := match C.und t with | some d => aggDesc d | none => false
noncomputable def oneAt (C : Ctx) (t : Nat) : Bool := match C.und t with | some d => !(aggDesc d) | none => false
theorem part_one' {C : Ctx} {t : TypeId} (h : oneAt C t = true) (cells : List Value) (o : Nat) : partOf C t cells o = cells[o]? := by
  unfold oneAt at h
  split at h
  · rename_i d hd; exact part_one hd (by simpa using h) cells o
  · simp at h
theorem part_agg' {C : Ctx} {t : TypeId} {n : Nat} (h : aggAt C t = true) (hs : C.size t = some n) (cells : List Value) (o : Nat) : partOf C t cells o = obind (take? cells o n) fun l => some (mkAgg l) := by
  unfold aggAt at h
  split at h
  · rename_i d hd; exact part_agg hd h hs cells o
  · simp at h
theorem load_one {C : Ctx} {t : TypeId} (ha : oneAt C t = true) (b p : Nat) (sp : Option Nat) (h : Heap) : aLoad C t (.pointer (some ⟨b, p, sp⟩)) h = obind (rowAt h b) fun l => l[p]? := by
  rw [M_load]; simp only [part_one' ha]
theorem load_agg {C : Ctx} {t : TypeId} {n : Nat} (ha : aggAt C t = true) (hs : C.size t = some n) (b p : Nat) (sp : Option Nat) (h : Heap) : aLoad C t (.pointer (some ⟨b, p, sp⟩)) h = obind (rowAt h b) fun l => obind (take? l p n) fun l => some (mkAgg l) := by
  rw [M_load]; simp only [part_agg' ha hs]
theorem ix_slice {C : Ctx} {t e : TypeId} {n : Nat} (hu : C.und t = some (.slice e)) (hs : C.size e = some n) (b o : Nat) (sp : Option Nat) (len cap i : Nat) (hi : i < len) : aIndexAddr C t (.slice (some ⟨b, o, sp⟩) len cap) (.int .i64 i) = some (.pointer (some ⟨b, o + i * n, none⟩)) :=
  indexAddr_at hu hs ⟨b, o, sp⟩ len cap .i64 i hi
noncomputable def structAt (C : Ctx) (t : Nat) : Bool := match C.und t with | some (.struct _) => true | _ => false
theorem build_struct {C : Ctx} {t : Nat} {z : Value} (h : structAt C t = true) (hz : C.zero t = some z) (p : List (Nat × Value)) : aBuild C t p = obind (fillWith (structPlace C t) p (cellsOf z)) fun l => some (mkAgg l) := by
  unfold structAt at h
  split at h
  · rename_i fs hd; unfold aBuild; rw [hz, hd]; rfl
  · simp at h
theorem build_array {C : Ctx} {t e n : Nat} {z : Value} {m : Nat} (h : C.und t = some (.array m e)) (hs : C.size e = some n) (hz : C.zero t = some z) (p : List (Nat × Value)) : aBuild C t p = obind (fillWith (rowPlace n) p (cellsOf z)) fun l => some (mkAgg l) := by
  unfold aBuild; rw [hz, h]; simp only [obind_some, buildIn, hs]
theorem place_struct {C : Ctx} {t i o u z : Nat} (h : C.fieldAt t i = some (o, u, z)) : structPlace C t i = some (o, z) := by unfold structPlace; rw [h]; rfl
noncomputable def noIface (C : Ctx) (t : Nat) : Bool := match C.und t with | some d => !(isIfaceD d) | none => false
theorem make_iface {C : Ctx} {t : Nat} (h : noIface C t = true) (v : Value) : aMakeIface C t v = some (.val (.iface t v)) := by
  unfold noIface at h
  split at h
  · rename_i d hd; unfold aMakeIface; rw [hd]; simp only [obind_some, h, guardB_true]; rfl
  · simp at h
theorem index_array {C : Ctx} {t e n : Nat} {m : Nat} (h : C.und t = some (.array m e)) (hs : C.size e = some n) (ho : oneAt C e = true) (l : List Value) (i : Nat) (hi : i < m) : aIndex C t (.agg ⟨l⟩) (.int .i64 i) = l[i * n]? := by
  unfold aIndex; rw [h]
  show obind (natBelow m i) _ = _
  have : Nat.ble (i + 1) m = true := Nat.ble_eq_true_of_le hi
  show obind (guardB (Nat.ble (i + 1) m) (some i)) _ = _
  rw [this]; simp only [guardB_true, obind_some, hs, part_one' ho]
theorem indexAddr_array {C : Ctx} {t e n : Nat} {m : Nat} (h : C.und t = some (.array m e)) (hs : C.size e = some n) (b o : Nat) (sp : Option Nat) (i : Nat) (hi : i < m) : aIndexAddr C t (.pointer (some ⟨b, o, sp⟩)) (.int .i64 i) = some (.pointer (some ⟨b, o + i * n, none⟩)) := by
  unfold aIndexAddr; rw [h]
  have : Nat.ble (i + 1) m = true := Nat.ble_eq_true_of_le hi
  show obind (guardB (Nat.ble (i + 1) m) (some i)) _ = _
  rw [this]; simp only [guardB_true, obind_some, hs, addrAt]
theorem buildSlice_one {C : Ctx} {t e : Nat} {z v : Value} (h : C.und t = some (.slice e)) (hs : C.size e = some 1) (hz : C.zero e = some z) (h1 : (cellsOf z).length = 1) (h2 : cellsOf v = [v]) : aBuildSlice C t 1 [(0, v)] = some (.new (.row [v] 1 true) (sliceTo 1 1 1)) := by
  have hz1 : (cellsOf z) = [(cellsOf z).headD v] := by
    cases hc : cellsOf z with
    | nil => rw [hc] at h1; simp at h1
    | cons a l => rw [hc] at h1; cases l <;> simp at h1 ⊢
  unfold aBuildSlice; rw [h]
  simp only [obind_some, sliceElem, zeroRow, hs, hz]
  have e1 : Nat.beq (cellsOf z).length 1 = true := by rw [h1]; rfl
  rw [e1]
  simp only [guardB_true, obind_some]
  show guardB true (obind (fillWith (rowPlace 1) [(0, v)] (cellsOf z ++ [])) _) = _
  rw [List.append_nil, guardB_true]
  show obind (obind (fill1 (rowPlace 1) (cellsOf z) (0, v)) fun c => some c) _ = _
  unfold fill1
  show obind (obind (guardB (Nat.beq (cellsOf v).length 1) (guardB (Nat.ble (0 + 1) (cellsOf z).length) _)) _) _ = _
  rw [h2, h1]
  show some (EV.new (AObj.row ((cellsOf z).take (0 * 1) ++ ([v] ++ (cellsOf z).drop (0 * 1 + 1))) 1 true) (sliceTo 1 1 1)) = _
  rw [hz1]; rfl
/-- what append needs, as a check -/
noncomputable def appB (C : Ctx) (t u s : Nat) : Bool := match C.und t with
  | some (.slice e) => (match C.T.get e with | some i => Nat.beq i.size s && (Nat.ble i.bytes 1024 && zeroFits i.size (C.zero e)) | none => false) && (match C.und u with | some d => listy d | none => false)
  | _ => false
theorem appT {C : Ctx} {t u s : Nat} (h : appB C t u s = true) : AppT C t u s := by
  unfold appB at h
  split at h
  · rename_i e he
    obtain ⟨h1, h2⟩ := (Bool.and_eq_true _ _).mp h
    split at h1
    · rename_i i hi
      obtain ⟨h3, h4⟩ := (Bool.and_eq_true _ _).mp h1
      obtain ⟨h4, h5⟩ := (Bool.and_eq_true _ _).mp h4
      split at h2
      · rename_i d hd
        exact ⟨e, i, d, he, hi, Nat.eq_of_beq_eq_true h3, Nat.le_of_ble_eq_true h4, hd, h2, h5⟩
      · simp at h2
    · simp at h1
  · simp at h
end Go.Am
