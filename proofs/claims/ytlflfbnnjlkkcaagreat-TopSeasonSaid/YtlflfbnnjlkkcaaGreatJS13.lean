/- The abstract machine over this program: the law of a season. -/
import Derived.Test.YtlflfbnnjlkkcaaGreatJS14
set_option linter.unusedSimpArgs false
set_option linter.unusedVariables false
set_option linter.defProp false
namespace Go.Am
open Go Go.Proofs
def F5_S13 := A2 @bld_80 <| A2 @bld_92 <| A2 @bs_22 <| A2 @fld_80_0 <| A2 @fld_80_1 <| A2 @fld_92_0 <| A2 @fld_92_1 <| A2 @fp_25_0 <| A2 @fp_25_1 <| A2 @fp_38_2 <| A2 @fp_47_0 <| A2 @fp_47_1 <| A2 @fp_47_2 <| A2 @fp_49_3 <| A2 @fp_49_6 <| A2 @fp_89_2 <| A2 @ix_22 <| A2 @ix_29 <| A2 @ix_44 <| A2 @ld_22 <| A2 @ld_3 <| A2 @ld_36 <| A2 @ld_38 <| A2 @ld_44 <| A2 @ld_45 <| A2 @ld_47 <| A2 @ld_49 <| A2 @len_22 <| A2 @len_29 <| A2 @len_36 <| A2 @len_44 <| A2 @len_45 <| A2 @part_25 <| A2 @part_3 <| A2 @part_89 <| A2 @size_22 <| A2 @size_25 <| A2 @size_29 <| A2 @size_3 <| A2 @size_44 <| A2 @size_47 <| A2 @size_49 <| A2 @size_80 <| A2 @size_89 <| A2 @size_92 <| A2 @sp_80_0 <| A2 @sp_80_1 <| A2 @sp_92_0 <| A2 @sp_92_1 <| A2 @und_22 <| A2 @und_29 <| A2 @und_44 <| A2 @zero_22 <| A2 @zero_25 <| A2 @zero_29 <| A2 @zero_44 <| A2 @zero_47 <| A2 @zero_80 @zero_92
theorem zero_ok {s S' : Sheet} (ok : s.ok = true) (hS : S' = { s with offs := List.replicate s.offs.length 0 }) : S'.ok = true := by
  subst hS
  rw [Sheet.ok_iff] at ok ⊢
  obtain ⟨h1, h2, h3⟩ := ok
  exact ⟨by simpa using h1, fun x hx => by rw [List.eq_of_mem_replicate hx]; rfl, by simpa using h3⟩
set_option maxRecDepth 20000 in
set_option maxHeartbeats 8000000 in
theorem season_law {h : Heap} (hk : HOK h) (hp : 0 < h.next) {a b c : Value} {s : Sheet} {t : Int} (hs : IsSheet h a b c s) :
    CW CC 5 [.agg ⟨[a, b, c]⟩, .int .i64 t] h fun r h' => r = .bool true ∧ Fr h h' := by
  have hs' := hs
  obtain ⟨p1, c1, rfl, _⟩ := hs.offs.open
  obtain ⟨p2, c2, rfl, hx2⟩ := hs.boards.open
  obtain ⟨p3, c3, rfl, _⟩ := hs.tars.open
  refine CW_in Tryz.f5 (by kernel_rfl) (by kernel_rfl) rfl rfl ?_
  simp only [Tryz.f5]
  have f1 := ex_fr [.row [.slice p1 s.offs.length c1, .slice p2 s.boards.length c2, .slice p3 s.tars.length c3] 0 true] (Fr.refl hk)
  have r1 : rowAt (h.ex [.row [.slice p1 s.offs.length c1, .slice p2 s.boards.length c2, .slice p3 s.tars.length c3] 0 true]) h.next = some [.slice p1 s.offs.length c1, .slice p2 s.boards.length c2, .slice p3 s.tars.length c3] := rx_at0 rfl
  cases d1 : decide ((s.offs.length : Int) > 5) with
  | true =>
    simp (maxDischargeDepth := 30) only [AA, ↓reduceIte, Nat.reduceLT, Nat.reduceEqDiff, Nat.reduceAdd, Nat.reduceMul, reduceCtorEq, Nat.reduceLeDiff, Int.reduceNe, Int.reduceEq, XH, F5_S13, hk, d1, known_d]
    exact ⟨trivial, f1⟩
  | false =>
  cases d2 : ((s.boards.length : Int) != 2) with
  | true =>
    simp (maxDischargeDepth := 30) only [AA, ↓reduceIte, Nat.reduceLT, Nat.reduceEqDiff, Nat.reduceAdd, Nat.reduceMul, reduceCtorEq, Nat.reduceLeDiff, Int.reduceNe, Int.reduceEq, XH, F5_S13, hk, d1, d2, known_d]
    exact ⟨trivial, f1⟩
  | false =>
  cases d3 : decide ((s.tars.length : Int) > 5) with
  | true =>
    simp (maxDischargeDepth := 30) only [AA, ↓reduceIte, Nat.reduceLT, Nat.reduceEqDiff, Nat.reduceAdd, Nat.reduceMul, reduceCtorEq, Nat.reduceLeDiff, Int.reduceNe, Int.reduceEq, XH, F5_S13, hk, d1, d2, d3, known_d]
    exact ⟨trivial, f1⟩
  | false =>
  simp (maxDischargeDepth := 30) only [AA, ↓reduceIte, Nat.reduceLT, Nat.reduceEqDiff, Nat.reduceAdd, Nat.reduceMul, reduceCtorEq, Nat.reduceLeDiff, Int.reduceNe, Int.reduceEq, XH, F5_S13, hk, d1, d2, d3]
  refine W_call (sheet_32 f1.ok (hs.fr hk f1)) ?_
  rintro _ h2 ⟨rfl, f2⟩
  have f02 := f1.trans f2
  have r2 := f2.row' f1.ok r1
  cases ok : s.ok with
  | false =>
    simp (maxDischargeDepth := 30) only [AA, ↓reduceIte, Nat.reduceLT, Nat.reduceEqDiff, Nat.reduceAdd, Nat.reduceMul, reduceCtorEq, Nat.reduceLeDiff, Int.reduceNe, Int.reduceEq, XH, F5_S13, f2.ok, known_d]
    exact ⟨trivial, f02⟩
  | true =>
  have hlen := Sheet.ok_len ok
  simp (maxDischargeDepth := 30) only [AA, ↓reduceIte, Nat.reduceLT, Nat.reduceEqDiff, Nat.reduceAdd, Nat.reduceMul, reduceCtorEq, Nat.reduceLeDiff, Int.reduceNe, Int.reduceEq, XH, F5_S13, f2.ok, r2]
  refine W_call (tariff_33 _ _ _ _ _ _ _ _ _ t h2 f2.ok (by omega)) ?_
  rintro _ h3 ⟨rfl, f3⟩
  have f03 := f02.trans f3
  have r3 := f3.row' f2.ok r2
  cases ht : inP t 0 ((s.tars.length : Int) - 1) with
  | false =>
    simp (maxDischargeDepth := 30) only [AA, ↓reduceIte, Nat.reduceLT, Nat.reduceEqDiff, Nat.reduceAdd, Nat.reduceMul, reduceCtorEq, Nat.reduceLeDiff, Int.reduceNe, Int.reduceEq, XH, F5_S13, f3.ok, known_d]
    exact ⟨trivial, f03⟩
  | true =>
  have two : s.boards.length = 2 := by have : (s.boards.length : Int) = 2 := by simpa using d2
                                       omega
  obtain ⟨k, rfl⟩ : ∃ k : Nat, t = k := ⟨t.toNat, by have := of_decide_eq_true ht; omega⟩
  obtain ⟨tr, gt⟩ : ∃ tr, s.tars[k]? = some tr := ⟨_, List.getElem?_eq_getElem (by have := of_decide_eq_true ht; omega)⟩
  simp (maxDischargeDepth := 30) only [AA, ↓reduceIte, Nat.reduceLT, Nat.reduceEqDiff, Nat.reduceAdd, Nat.reduceMul, reduceCtorEq, Nat.reduceLeDiff, Int.reduceNe, Int.reduceEq, XH, F5_S13, f3.ok, suite_d]
  have f4 := ex_fr (objsA true suiteR h3.next) (Fr.refl f3.ok)
  have x4 := suite_objs (h := h3)
  generalize (h3.ex (objsA true suiteR h3.next)) = h4 at f4 x4 ⊢
  have f04 := f03.trans f4
  have r4 := f4.row' f3.ok r3
  have n4 := f04.next
  have n4' := f4.next
  have p4 : h.next < h4.next := row_lt f4.ok r4
  have put32 : ∀ x y z, write? (SuiteD.cells exD (exV h3.next)) 32 [x, y, z] = some (SuiteD.cells exD { exV h3.next with of := x, bd := y, tr := z }) := fun _ _ _ => rfl
  have put1 : ∀ u x, write? (SuiteD.cells exD u) 32 [x] = some (SuiteD.cells exD { u with of := x }) := fun _ _ => rfl
  simp (maxDischargeDepth := 30) only [AA, ↓reduceIte, Nat.reduceLT, Nat.reduceEqDiff, Nat.reduceAdd, Nat.reduceMul, reduceCtorEq, Nat.reduceLeDiff, Int.reduceNe, Int.reduceEq, XH, SC, F5_S13, f4.ok, show CC.zero 49 = some (.agg ⟨suiteZ⟩) by kernel_rfl, show suiteZ.length = 35 from rfl, show allOne (exD.cells (exV h3.next)) = true from rfl, show ∀ l, write? suiteZ 0 (SuiteD.cells exD l) = some (SuiteD.cells exD l) from fun l => write_all _ _ rfl, r4, p4, put32, put1, mk_z (show s.offs.length ≤ 4 by omega)]
  obtain ⟨S', hS⟩ : ∃ S' : Sheet, S' = { s with offs := List.replicate s.offs.length 0 } := ⟨_, rfl⟩
  have ok' : S'.ok = true := zero_ok ok hS
  have two' : S'.boards.length = 2 := by rw [hS]; exact two
  obtain ⟨U, hU⟩ : ∃ U : SuiteV, U = { exV h3.next with of := .slice (some ⟨h4.next + 1, 0, some 1⟩) s.offs.length s.offs.length, bd := .slice p2 s.boards.length c2, tr := .slice p3 s.tars.length c3 } := ⟨_, rfl⟩
  rw [← hU]
  have f5 := ex_fr [.row (exD.cells U) 0 true, .row ((List.replicate s.offs.length (0 : Int)).flatMap ints) 1 true] (Fr.refl f4.ok)
  have rz : rowAt (h4.ex [.row (exD.cells U) 0 true, .row ((List.replicate s.offs.length (0 : Int)).flatMap ints) 1 true]) (h4.next + 1) = some ((List.replicate s.offs.length (0 : Int)).flatMap ints) := by rw [rx_at rfl (by simp)]; rfl
  have ra : rowAt (h4.ex [.row (exD.cells U) 0 true, .row ((List.replicate s.offs.length (0 : Int)).flatMap ints) 1 true]) h4.next = some (exD.cells U) := rx_at0 rfl
  have f05 := f04.trans f5
  generalize (h4.ex [.row (exD.cells U) 0 true, .row ((List.replicate s.offs.length (0 : Int)).flatMap ints) 1 true]) = H at f5 rz ra f05 ⊢
  have su : IsSuite (fun _ => True) H U { exD with prices := S' } := by
    have e := ((ex_suite x4).fr f4.ok f5).mono (P' := fun _ => True) fun _ _ => trivial
    have hsH := hs.fr hk f05
    rw [hU, hS]
    exact { e with
      of := ⟨by have := LS.of_row (sp := some 1) (c := s.offs.length) (xs := List.replicate s.offs.length (0 : Int)) ints_len rz; rw [List.length_replicate] at this; exact this, fun _ _ _ => trivial⟩
      bd := ⟨hsH.boards, fun _ _ _ => trivial⟩
      tr := ⟨hsH.tars, fun _ _ _ => trivial⟩ }
  have sk : LP (fun _ => True) H U.sk [5, 5, 5] ints 1 := by
    rw [hU]
    exact (lp_at (n := 3) (Q := fun _ => True) (b := h3.next + 18) (xs := [(5 : Int), 5, 5]) ints_len (x4 18 _ (by kernel_rfl)) rfl trivial).fr f4.ok f5
  have xi : ExIn H U := by
    have x := (ex_in x4).fr f4.ok f5
    rw [hU]
    exact ⟨x.front, x.coats, x.board, x.bench, x.tints⟩
  rw [show exD.cells U = SuiteD.cells { exD with prices := S' } U from rfl]
  have pH : 0 < H.next := by have := f5.next; omega
  refine W_call (open_d f5.ok pH su sk xi ok' two' (ex_small ok')) ?_
  rintro _ h6 ⟨⟨d, w, rfl, D⟩, f6⟩
  have f06 := f05.trans f6
  have ra6 := f6.row' f5.ok ra
  have t15 : take? (exD.cells U) 15 3 = some [.int .i64 1, U.bo, U.st] := rfl
  have t32 : take? (exD.cells U) 32 3 = some [U.of, U.bd, U.tr] := rfl
  have su6 := su.fr f5.ok f6
  have bc := best_c su6 rfl
  obtain ⟨q1, d1', eb1⟩ := su.bo.1.len
  obtain ⟨q2, d2', eb2⟩ := su.st.len
  have l6 := row_lt f6.ok ra6
  have f7 := ex_fr [.row [.int .i64 0, .int .i64 1, .int .i64 0, .int .i64 1] 1 true] f6
  have ec := ends_c (su.fr f5.ok f7) rfl (LS.of_row (sp := none) (c := 4) (xs := [(0 : Int), 1, 0, 1]) ints_len (rx_at0 (h := h6) (l := []) (s := 1) (o := true) rfl))
  simp only [List.length_cons, List.length_nil, Nat.reduceAdd] at ec
  have z00 : ((0 : Int) != 0) = false := rfl
  simp (maxDischargeDepth := 30) only [AA, ↓reduceIte, Nat.reduceLT, Nat.reduceEqDiff, Nat.reduceAdd, Nat.reduceMul, reduceCtorEq, Nat.reduceLeDiff, Int.reduceNe, Int.reduceEq, XH, F5_S13, f6.ok, ra6, l6, t15, t32, bc, ec]
  have fE := ex_fr [.row [.int .i64 0, .int .i64 1, .int .i64 0, .int .i64 1] 1 true, .row [.int .i64 2, .int .i64 2, .int .i64 2, .int .i64 3, .int .i64 3, .int .i64 5, .int .i64 3, .int .i64 6] 2 true] (Fr.refl f6.ok)
  have rB : rowAt (h6.ex [.row [.int .i64 0, .int .i64 1, .int .i64 0, .int .i64 1] 1 true, .row [.int .i64 2, .int .i64 2, .int .i64 2, .int .i64 3, .int .i64 3, .int .i64 5, .int .i64 3, .int .i64 6] 2 true]) h6.next = some [.int .i64 0, .int .i64 1, .int .i64 0, .int .i64 1] := rx_at0 rfl
  have rE : rowAt (h6.ex [.row [.int .i64 0, .int .i64 1, .int .i64 0, .int .i64 1] 1 true, .row [.int .i64 2, .int .i64 2, .int .i64 2, .int .i64 3, .int .i64 3, .int .i64 5, .int .i64 3, .int .i64 6] 2 true]) (h6.next + 1) = some [.int .i64 2, .int .i64 2, .int .i64 2, .int .i64 3, .int .i64 3, .int .i64 5, .int .i64 3, .int .i64 6] := by rw [rx_at rfl (by simp)]; rfl
  have gB : (h6.ex [.row [.int .i64 0, .int .i64 1, .int .i64 0, .int .i64 1] 1 true, .row [.int .i64 2, .int .i64 2, .int .i64 2, .int .i64 3, .int .i64 3, .int .i64 5, .int .i64 3, .int .i64 6] 2 true]).get h6.next = some (.row [.int .i64 0, .int .i64 1, .int .i64 0, .int .i64 1] 1 true) := ex_at0 rfl
  have gE : (h6.ex [.row [.int .i64 0, .int .i64 1, .int .i64 0, .int .i64 1] 1 true, .row [.int .i64 2, .int .i64 2, .int .i64 2, .int .i64 3, .int .i64 3, .int .i64 5, .int .i64 3, .int .i64 6] 2 true]).get (h6.next + 1) = some (.row [.int .i64 2, .int .i64 2, .int .i64 2, .int .i64 3, .int .i64 3, .int .i64 5, .int .i64 3, .int .i64 6] 2 true) := by rw [ex_at rfl (by simp)]; rfl
  generalize (h6.ex [.row [.int .i64 0, .int .i64 1, .int .i64 0, .int .i64 1] 1 true, .row [.int .i64 2, .int .i64 2, .int .i64 2, .int .i64 3, .int .i64 3, .int .i64 5, .int .i64 3, .int .i64 6] 2 true]) = h7 at fE rB rE gB gE ⊢
  have gt' : S'.tars[k]? = some tr := by rw [hS]; exact gt
  refine W_call (paid_24 fE.ok (by have := fE.next; have := f6.next; omega) ((su6.fr f6.ok fE).sheet) ok' gt' (ends_ok ok' false) (ends_ok ok' true)) ?_
  rintro _ h8 ⟨rfl, f8⟩
  have f68 := fE.trans f8
  have rB8 := f8.row' fE.ok rB
  have rE8 := f8.row' fE.ok rE
  have ra8 := f68.row' f6.ok ra6
  have l8 := row_lt f8.ok ra8
  have c17 : (exD.cells U)[17]? = some U.st := rfl
  have eb2 : U.st = .slice q2 4 d2' := eb2
  simp (maxDischargeDepth := 30) only [AA, ↓reduceIte, Nat.reduceLT, Nat.reduceEqDiff, Nat.reduceAdd, Nat.reduceMul, reduceCtorEq, Nat.reduceLeDiff, Int.reduceNe, Int.reduceEq, XH, F5_S13, f8.ok, z00, show ∀ (c : Bool) (a : Addr), aBin CC .eql 52 c (.pointer (some a)) (.pointer none) = some (.bool false) from fun c a => by cases c <;> kernel_rfl, ra8, l8, c17, eb2, bne_self_eq_false]
  have f9 := ex_fr [.row [.int .i64 (paid tr S'.boards (endsL false S'.boards)), .int .i64 (paid tr S'.boards (endsL true S'.boards))] 0 true] f68
  have gP9 : (h8.ex [.row [.int .i64 (paid tr S'.boards (endsL false S'.boards)), .int .i64 (paid tr S'.boards (endsL true S'.boards))] 0 true]).get h8.next = some (.row [.int .i64 (paid tr S'.boards (endsL false S'.boards)), .int .i64 (paid tr S'.boards (endsL true S'.boards))] 0 true) := ex_at0 rfl
  have f89 := ex_fr [.row [.int .i64 (paid tr S'.boards (endsL false S'.boards)), .int .i64 (paid tr S'.boards (endsL true S'.boards))] 0 true] f8
  generalize (h8.ex [.row [.int .i64 (paid tr S'.boards (endsL false S'.boards)), .int .i64 (paid tr S'.boards (endsL true S'.boards))] 0 true]) = h9 at f9 f89 gP9 ⊢
  have gB9 := f89.get' fE.ok gB
  have gE9 := f89.get' fE.ok gE
  have D9 := D.fr f6.ok f9
  have fH9 := f6.trans f9
  obtain ⟨S, hS'⟩ : ∃ S : SuiteD, S = { exD with prices := S' } := ⟨_, rfl⟩
  rw [← hS'] at D9
  have eb : S.bench = exD.bench := by rw [hS']
  have ec : S.coats = exD.coats := by rw [hS']
  have ep : S.prices = S' := by rw [hS']
  have sm : S.Small := by rw [hS']; exact ex_small ok'
  have ho : S.prices.offs.length ≤ 4 := by rw [ep]; have := Sheet.ok_len ok'; omega
  obtain ⟨RB, hRB⟩ : ∃ RB : List Value, RB = [.int .i64 0, .int .i64 1, .int .i64 0, .int .i64 1] := ⟨_, rfl⟩
  obtain ⟨RE, hRE⟩ : ∃ RE : List Value, RE = [.int .i64 2, .int .i64 2, .int .i64 2, .int .i64 3, .int .i64 3, .int .i64 5, .int .i64 3, .int .i64 6] := ⟨_, rfl⟩
  refine W_for [4, 15, 16, 119, 120, 121, 122, 123, 124, 125, 126, 127, 128, 129, 130, 131, 132, 133, 134, 135, 136, 137, 138, 139, 140, 141, 142, 143, 144, 145, 146, 147, 148, 149, 150, 151, 152, 153] 16 4 (fun i g h' => ∃ w vo, g 15 = vo ∧ DeskX (fun b => blkOf vo = some b) H.next h' d S ((E8.take (2 * i)).map Ent.entry) w ∧ SL h9.next h' vo ((spansL (endsR.take i)).flatMap ints) 1 (2 * i) ∧
      h'.get h6.next = some (.row [.int .i64 0, .int .i64 1, .int .i64 0, .int .i64 1] 1 true) ∧ h'.get (h6.next + 1) = some (.row [.int .i64 2, .int .i64 2, .int .i64 2, .int .i64 3, .int .i64 3, .int .i64 5, .int .i64 3, .int .i64 6] 2 true) ∧
      h'.get h8.next = some (.row [.int .i64 (paid tr S'.boards (endsL false S'.boards)), .int .i64 (paid tr S'.boards (endsL true S'.boards))] 0 true) ∧ Fr H h' ∧ h9.next ≤ h'.next)
    (by simp only [upd_at, Nat.reduceEqDiff, ↓reduceIte]) ⟨w, _, by simp only [upd_at, Nat.reduceEqDiff, ↓reduceIte], by
      have := DeskX.none D9 f9.ok
      rwa [show (fun _ => False) = fun b : Nat => blkOf (.slice none 0 0) = some b from funext fun b => by simp [blkOf]] at this, SL.nil _ _ _, gB9, gE9, gP9, fH9, Nat.le_refl _⟩ ?_ ?_
  · rintro i g h10 hi ag g16 ⟨w0, vo, g15, X10, so, b10, c10, p10, fH10, n10⟩ ih
    have D10 := X10.desk
    obtain ⟨b, hb⟩ : ∃ b, bestL[i]? = some b := ⟨_, List.getElem?_eq_getElem hi⟩
    obtain ⟨x, gx⟩ : ∃ x, endsR[i]? = some x := ⟨_, List.getElem?_eq_getElem hi⟩
    have k10 := fH10.ok
    have cb : RB[i]? = some (.int .i64 b) := by
      rw [hRB]
      rcases (by omega : i = 0 ∨ i = 1 ∨ i = 2 ∨ i = 3) with rfl | rfl | rfl | rfl <;> simp [bestL] at hb <;> subst hb <;> rfl
    have rB10 : rowAt h10 h6.next = some RB := by unfold rowAt; rw [b10, hRB]; rfl
    simp (maxDischargeDepth := 30) only [AA, ↓reduceIte, Nat.reduceLT, Nat.reduceEqDiff, Nat.reduceAdd, Nat.reduceMul, reduceCtorEq, Nat.reduceLeDiff, Int.reduceNe, Int.reduceEq, XH, F5_S13, ag.r, NE, g16, k10, lt_t hi, hi, rB10, cb, bs_two, Nat.mul_one, Nat.zero_add]
    have f11 := ex_fr [.row [.int .i64 (i : Int), .int .i64 b] 1 true] (Fr.refl k10)
    have lv := LS.of_row (sp := some 1) (c := 2) (xs := [(i : Int), b]) ints_len (rx_at0 (h := h10) (c := [.int .i64 (i : Int), .int .i64 b]) (s := 1) (o := true) (l := []) rfl)
    generalize (h10.ex [.row [.int .i64 (i : Int), .int .i64 b] 1 true]) = h11 at f11 lv ⊢
    have n11 := f11.next
    have pH10 := fH10.next
    have D11 := D10.fr k10 f11
    have b01 : 0 ≤ b ∧ b ≤ 9999 := by rcases (by omega : i = 0 ∨ i = 1 ∨ i = 2 ∨ i = 3) with rfl | rfl | rfl | rfl <;> simp [bestL] at hb <;> subst hb <;> omega
    have l8e : (E8.take (2 * i)).length = 2 * i := by rw [List.length_take]; show min _ 8 = _; omega
    have l8d : (E8.take (2 * i + 1)).length = 2 * i + 1 := by rw [List.length_take]; show min _ 8 = _; omega
    have x1 : E8[2 * i]? = some (.give i b) := by rcases (by omega : i = 0 ∨ i = 1 ∨ i = 2 ∨ i = 3) with rfl | rfl | rfl | rfl <;> simp [bestL] at hb <;> subst hb <;> rfl
    have x2 : E8[2 * i + 1]? = some (.done i) := by rcases (by omega : i = 0 ∨ i = 1 ∨ i = 2 ∨ i = 3) with rfl | rfl | rfl | rfl <;> rfl
    refine W_call (entered_x (.give i b) (P0 := True) f11.ok (by omega) D11 (went8 S _ (by omega)) sm ec eb ho (by omega) (formed_2 (.inl rfl) (by omega) b01) lv trivial (give_goes eb hi hb)) ?_
    rintro _ h12 ⟨rfl, ⟨w1, D12, nx12⟩, g12⟩
    have X12 := (X10.fr k10 f11).next (x := Ent.entry (.give i b)) (by rw [List.map_append] at D12; exact D12) nx12 g12
    rw [← take_snoc x1] at D12
    simp (maxDischargeDepth := 30) only [AA, ↓reduceIte, Nat.reduceLT, Nat.reduceEqDiff, Nat.reduceAdd, Nat.reduceMul, reduceCtorEq, Nat.reduceLeDiff, Int.reduceNe, Int.reduceEq, XH, F5_S13, ag.r, NE, g16, g12.ok, bs_22]
    have f13 := ex_fr [.row [.int .i64 (i : Int)] 1 true] (Fr.refl g12.ok)
    have lw := LS.of_row (sp := some 1) (c := 1) (xs := [(i : Int)]) ints_len (rx_at0 (h := h12) (c := [.int .i64 (i : Int)]) (s := 1) (o := true) (l := []) rfl)
    generalize (h12.ex [.row [.int .i64 (i : Int)] 1 true]) = h13 at f13 lw ⊢
    have n13 := f13.next
    have m12 := g12.next
    have D13 := D12.fr g12.ok f13
    refine W_call (entered_x (.done i) (P0 := True) f13.ok (by omega) D13 (went8 S _ (by omega)) sm ec eb ho (by omega) (formed_1 (.inl rfl) (by omega)) lw trivial (done_goes eb hi)) ?_
    rintro _ h14 ⟨rfl, ⟨w2, D14, nx14⟩, g14⟩
    have X14 := ((show DeskX (fun b => blkOf vo = some b) H.next h12 d S ((E8.take (2 * i + 1)).map Ent.entry) w1 by rw [take_snoc x1, List.map_append]; exact X12).fr g12.ok f13).next (x := Ent.entry (.done i)) (by rw [List.map_append] at D14; exact D14) nx14 g14
    rw [← take_snoc x2] at D14
    have fH14 : Fr H h14 := D13.fH f13.ok ((D11.fH f11.ok (fH10.trans f11) g12).trans f13) g14
    have b14 := D13.kp f13.ok g14 (f13.get' g12.ok (D11.kp f11.ok g12 (f11.get' k10 b10) (by simp))) (by simp)
    have c14 := D13.kp f13.ok g14 (f13.get' g12.ok (D11.kp f11.ok g12 (f11.get' k10 c10) (by simp))) (by simp)
    have p14 := D13.kp f13.ok g14 (f13.get' g12.ok (D11.kp f11.ok g12 (f11.get' k10 p10) (by simp))) (by simp)
    have so14 := D13.ks f13.ok g14 ((D11.ks f11.ok g12 (so.fr k10 f11)).fr g12.ok f13)
    have m14 := g14.next
    have rE14 : rowAt h14 (h6.next + 1) = some RE := by unfold rowAt; rw [c14, hRE]; rfl
    have cx : RE[i * 2]? = some (.int .i64 x.lo) ∧ RE[i * 2 + 1]? = some (.int .i64 x.hi) := by
      rw [hRE]
      rcases (by omega : i = 0 ∨ i = 1 ∨ i = 2 ∨ i = 3) with rfl | rfl | rfl | rfl <;> simp [endsR] at gx <;> subst gx <;> exact ⟨rfl, rfl⟩
    simp (maxDischargeDepth := 30) only [AA, ↓reduceIte, Nat.reduceLT, Nat.reduceEqDiff, Nat.reduceAdd, Nat.reduceMul, reduceCtorEq, Nat.reduceLeDiff, Int.reduceNe, Int.reduceEq, XH, F5_S13, ag.r, NE, g16, g14.ok]
    refine W_draw [(true, 0), (true, 1), (true, 2), (true, 3), (true, 4), (true, 5), (true, 6), (true, 7), (true, 8), (true, 9), (true, 10), (true, 11), (true, 12), (true, 13)] (by kernel_rfl) ?_
    have f15 := ex_fr [.row [.int .i64 x.lo, .int .i64 x.hi] 1 true] (Fr.refl g14.ok)
    have nn : (h14.ex [.row [.int .i64 x.lo, .int .i64 x.hi] 1 true]).next = h14.next + 1 := by rw [ex_next]; rfl
    obtain ⟨h16, e16, q16, k16, n16, g16'⟩ := append_N (ts := []) app_22 (N := h9.next) f15.ok (by omega) (by omega) (so14.fr g14.ok f15) (x := .slice (some ⟨h14.next, 0, some 1⟩) 2 2) (m := 1) (new := [.int .i64 x.lo, .int .i64 x.hi]) rfl (by
      show obind (rowAt _ h14.next) (fun cells => take? cells 0 ((1 + 1) * 1)) = _
      rw [rx_at0 rfl]; rfl) rfl rfl (by omega)
    rw [nn] at e16 q16 n16 g16'
    simp only [XH, sliceTo, List.cons_append, List.nil_append] at e16 q16
    simp (maxDischargeDepth := 30) only [AA, ↓reduceIte, Nat.reduceLT, Nat.reduceEqDiff, Nat.reduceAdd, Nat.reduceMul, reduceCtorEq, Nat.reduceLeDiff, Int.reduceNe, Int.reduceEq, AMR, XH, F5_S13, ag.r, NE, g16, g15, g14.ok, hi, rE14, cx, bs_two, Nat.zero_add, e16, k16, i_next hi (by omega : 4 ≤ 1000)]
    refine ih _ _ (by simp only [AG, Nat.reduceEqDiff, ag]) (by simp only [upd_at, ↓reduceIte]) ⟨w2, .slice (some ⟨h14.next + 1, 0, some 1⟩) (2 * i + 2) (2 * i + 2), by simp only [upd_at, Nat.reduceEqDiff, ↓reduceIte], ?_, ?_, ?_, ?_, ?_, ?_, by omega⟩
    all_goals have old : ∀ j, j < h14.next → blkOf vo ≠ some j → h16.get j = h14.get j := fun j hj hb => by rw [g16' j (by omega) hb, ex_lt hj]
    · have := X14.app (v' := .slice (some ⟨h14.next + 1, 0, some 1⟩) (2 * i + 2) (2 * i + 2)) g14.ok k16 (by omega) old so14 (fun b hb => by simp [blkOf] at hb; omega)
      rw [show 2 * (i + 1) = 2 * i + 1 + 1 by omega, take_snoc x2, List.map_append]
      exact this
    · rw [spansL_snoc gx, List.flatMap_append]; exact q16
    · rw [old _ (get_lt g14.ok b14) (fun e => ?_)]
      · exact b14
      · have := (so14.blk_lt g14.ok e).1; have := get_lt f9.ok gB9; omega
    · rw [old _ (get_lt g14.ok c14) (fun e => ?_)]
      · exact c14
      · have := (so14.blk_lt g14.ok e).1; have := get_lt f9.ok gE9; omega
    · rw [old _ (get_lt g14.ok p14) (fun e => ?_)]
      · exact p14
      · have := (so14.blk_lt g14.ok e).1; have := get_lt f9.ok gP9; omega
    · refine ⟨k16, by have := fH14.next; omega, fun j hj => ?_⟩
      have := fH14.next
      have := fH9.next
      rw [old j (by omega) (fun e => by have := (so14.blk_lt g14.ok e).1; omega)]
      exact fH14.get j hj
  · rintro g h10 ag g16 ⟨w0, vo, g15, X10, so, b10, c10, p10, fH10, n10⟩
    have D10 := X10.desk
    have k10 := fH10.ok
    have e8 : E8.take (2 * 4) = E8 := rfl
    rw [e8] at D10
    have so10 : SL h9.next h10 vo ((spansL endsR).flatMap ints) 1 (spansL endsR).length := so
    clear so X10 b10 c10
    simp (maxDischargeDepth := 30) only [AA, ↓reduceIte, Nat.reduceLT, Nat.reduceEqDiff, Nat.reduceAdd, Nat.reduceMul, reduceCtorEq, Nat.reduceLeDiff, Int.reduceNe, Int.reduceEq, XH, F5_S13, ag.r, NE, g16, k10, lt_f]
    obtain ⟨x, y, hxy⟩ : ∃ x y, s.boards = [x, y] := by
      match hb : s.boards, two with
      | [x, y], _ => exact ⟨x, y, rfl⟩
    have exy : S.prices.boards = [x, y] := by rw [ep, hS]; exact hxy
    have okS : S.prices.ok = true := by rw [ep]; exact ok'
    have bx := of_decide_eq_true (Sheet.ok_boards okS x (by rw [exy]; simp))
    have by' := of_decide_eq_true (Sheet.ok_boards okS y (by rw [exy]; simp))
    have rS := f5.row' f4.ok r4
    have fhH : Fr h H := f05
    rcases hx2 with e0 | ⟨bb, ob, spb, rowb, rfl, hrb, hxb⟩
    · rw [hxy] at e0; simp at e0
    refine W_for [4, 17, 154, 155, 156, 157, 158, 159, 160, 161, 162, 163, 164, 165, 166, 167, 168, 169, 170, 171, 172] 17 2 (fun i g h' => ∃ w, IsDesk H.next h' d S ((E8 ++ (hrs x.hi y.hi).take i).map Ent.entry) w ∧ SL h9.next h' vo ((spansL endsR).flatMap ints) 1 (spansL endsR).length ∧
      h'.get h8.next = some (.row [.int .i64 (paid tr S'.boards (endsL false S'.boards)), .int .i64 (paid tr S'.boards (endsL true S'.boards))] 0 true) ∧ Fr H h')
      (by simp only [upd_at, Nat.reduceEqDiff, ↓reduceIte]) ⟨w0, by rw [List.take_zero, List.append_nil]; exact D10, so10, p10, fH10⟩ ?_ ?_
    · rintro i g2 h11 hi ag2 g17 ⟨w1, D11, so11, p11, fH11⟩ ih
      have k11 := fH11.ok
      obtain ⟨wb, hwb⟩ : ∃ wb, s.boards[i]? = some wb := ⟨_, List.getElem?_eq_getElem (by omega)⟩
      have cb1 : rowb[ob + i * 5 + 3]? = some (.int .i64 wb.hi) := by simpa [Board.cells] using (hxb i wb hwb).2 3 (by omega)
      have cb2 : rowb[ob + i * 5 + 2 + 1]? = some (.int .i64 wb.hi) := cb1
      have rS11 := fH11.row' f5.ok rS
      have rb11 := (fhH.trans fH11).row' hk hrb
      have hi2 : i < s.boards.length := by omega
      simp (maxDischargeDepth := 30) only [AA, ↓reduceIte, Nat.reduceLT, Nat.reduceEqDiff, Nat.reduceAdd, Nat.reduceMul, reduceCtorEq, Nat.reduceLeDiff, Int.reduceNe, Int.reduceEq, XH, F5_S13, ag.r, ag2.r, NE, g17, k11, rS11, two, lt_t hi, hi, hi2, rb11, cb1, cb2, bs_two, Nat.zero_add]
      have f12 := ex_fr [.row [.int .i64 (i : Int), .int .i64 wb.hi] 1 true] (Fr.refl k11)
      have lv := LS.of_row (sp := some 1) (c := 2) (xs := [(i : Int), wb.hi]) ints_len (rx_at0 (h := h11) (c := [.int .i64 (i : Int), .int .i64 wb.hi]) (s := 1) (o := true) (l := []) rfl)
      generalize (h11.ex [.row [.int .i64 (i : Int), .int .i64 wb.hi] 1 true]) = h12 at f12 lv ⊢
      have n12 := f12.next
      have n11 := fH11.next
      have D12 := D11.fr k11 f12
      have wb1 : 0 ≤ wb.hi ∧ wb.hi ≤ 9999 := by
        rw [hxy] at hwb
        rcases (by omega : i = 0 ∨ i = 1) with rfl | rfl <;> simp at hwb <;> subst hwb <;> omega
      have ll : (E8 ++ (hrs x.hi y.hi).take i).length = 8 + i := by
        rw [List.length_append, List.length_take]; show 8 + min i 2 = _; omega
      have hx1 : (hrs x.hi y.hi)[i]? = some (.hours i wb.hi) := by
        rw [hxy] at hwb
        rcases (by omega : i = 0 ∨ i = 1) with rfl | rfl <;> simp at hwb <;> subst hwb <;> rfl
      refine W_call (entered_x (.hours i wb.hi) (P0 := True) f12.ok (by omega) D12 (went_h S x.hi y.hi i (by omega)) sm ec eb ho (by omega) (formed_2 (.inr (.inl rfl)) (by omega) wb1) lv trivial (hours_goes exy (by omega) (by omega) hi (by rw [exy, ← hxy]; exact hwb))) ?_
      rintro _ h13 ⟨rfl, ⟨w2, D13, _⟩, g13⟩
      rw [List.append_assoc, ← take_snoc hx1] at D13
      simp (maxDischargeDepth := 30) only [AA, ↓reduceIte, Nat.reduceLT, Nat.reduceEqDiff, Nat.reduceAdd, Nat.reduceMul, reduceCtorEq, Nat.reduceLeDiff, Int.reduceNe, Int.reduceEq, XH, F5_S13, ag.r, ag2.r, NE, g17, g13.ok, i_next hi (by omega : 2 ≤ 1000)]
      exact ih _ _ (by simp only [AG, Nat.reduceEqDiff, ag2]) (by simp only [upd_at, ↓reduceIte]) ⟨w2, D13, D12.ks f12.ok g13 (so11.fr k11 f12), D12.kp f12.ok g13 (f12.get' k11 p11) (by simp), D12.fH f12.ok (fH11.trans f12) g13⟩
    · rintro g2 h11 ag2 g17 ⟨w1, D11, so11, p11, fH11⟩
      have k11 := fH11.ok
      have rS11 := fH11.row' f5.ok rS
      rw [show (hrs x.hi y.hi).take 2 = hrs x.hi y.hi from rfl] at D11
      simp (maxDischargeDepth := 30) only [AA, ↓reduceIte, Nat.reduceLT, Nat.reduceEqDiff, Nat.reduceAdd, Nat.reduceMul, reduceCtorEq, Nat.reduceLeDiff, Int.reduceNe, Int.reduceEq, XH, F5_S13, ag.r, ag2.r, NE, g17, k11, rS11, two, lt_f, bs_22]
      have f12 := ex_fr [.row [.int .i64 (k : Int)] 1 true] (Fr.refl k11)
      have lv := LS.of_row (sp := some 1) (c := 1) (xs := [(k : Int)]) ints_len (rx_at0 (h := h11) (c := [.int .i64 (k : Int)]) (s := 1) (o := true) (l := []) rfl)
      generalize (h11.ex [.row [.int .i64 (k : Int)] 1 true]) = h12 at f12 lv ⊢
      have n12 := f12.next
      have n11 := fH11.next
      have D12 := D11.fr k11 f12
      have tk : k < S.prices.tars.length := by rw [ep]; exact (List.getElem?_eq_some_iff.1 gt').1
      have tl := Sheet.ok_len okS
      have W2 := went_h S x.hi y.hi 2 (by omega)
      rw [show (hrs x.hi y.hi).take 2 = hrs x.hi y.hi from rfl] at W2
      refine W_call (entered_x (.deal k) (P0 := True) f12.ok (by omega) D12 W2 sm ec eb ho (by simp [E8, hrs]) (formed_1 (.inr rfl) (by omega)) lv trivial (deal_goes tk)) ?_
      rintro _ h13 ⟨rfl, ⟨w2, D13, _⟩, g13⟩
      have fH13 := D12.fH f12.ok (fH11.trans f12) g13
      have so13 := D12.ks f12.ok g13 (so11.fr k11 f12)
      have p13 := D12.kp f12.ok g13 (f12.get' k11 p11) (by simp)
      have n13 := fH13.next
      have P0 := paying0 S k x.hi y.hi
      have et : S.prices.tars[k]? = some tr := by rw [ep]; exact gt'
      obtain ⟨_, _, _, el, eh, eS⟩ := P0.agreed exy et okS
      simp (maxDischargeDepth := 30) only [AA, ↓reduceIte, Nat.reduceLT, Nat.reduceEqDiff, Nat.reduceAdd, Nat.reduceMul, reduceCtorEq, Nat.reduceLeDiff, Int.reduceNe, Int.reduceEq, XH, F5_S13, ag.r, ag2.r, NE, g15, g13.ok]
      refine W_call (told_x fH13.ok (by omega) D13 P0.went sm ec eb ho (by simp [E8, hrs]) (v := .slice none 0 0) (nums := []) (.inl ⟨rfl, _, _, rfl⟩) (.inr (.inl ⟨rfl, rfl, rfl⟩)) (out := spansL endsR) (by decide) (SL.ls ints_len so13) fun M h1 p sv u k1 h01 _ st _ => askEnds_d k1 h01 st (by rw [eS]; exact eb) eh u) ?_
      rintro _ h14 ⟨rfl, f14⟩
      simp (maxDischargeDepth := 30) only [AA, ↓reduceIte, Nat.reduceLT, Nat.reduceEqDiff, Nat.reduceAdd, Nat.reduceMul, reduceCtorEq, Nat.reduceLeDiff, Int.reduceNe, Int.reduceEq, XH, F5_S13, ag.r, ag2.r, NE, f14.ok]
      refine W_call (told_x f14.ok (by have := f14.next; omega) (D13.fr fH13.ok f14) P0.went sm ec eb ho (by simp [E8, hrs]) (v := .slice none 0 0) (nums := []) (.inl ⟨rfl, _, _, rfl⟩) (.inl ⟨rfl, rfl, rfl⟩) (out := []) (by decide) (.inl ⟨rfl, _, _, rfl⟩) fun M h1 p sv u k1 h01 _ st _ => askReady_d k1 st el (by rw [eh]; decide) u) ?_
      rintro _ h15 ⟨rfl, f15⟩
      have f35 := f14.trans f15
      simp (maxDischargeDepth := 30) only [AA, ↓reduceIte, Nat.reduceLT, Nat.reduceEqDiff, Nat.reduceAdd, Nat.reduceMul, reduceCtorEq, Nat.reduceLeDiff, Int.reduceNe, Int.reduceEq, XH, F5_S13, ag.r, ag2.r, NE, f15.ok]
      have hz : S.prices.offs = List.replicate S.prices.offs.length 0 := by rw [ep, hS]; simp only [List.length_replicate]
      have nO : S.prices.offs.length = s.offs.length := by rw [ep, hS]; simp only [List.length_replicate]
      have tok := Sheet.ok_tars okS tr (List.mem_of_getElem? et)
      have OK : OwesOK (owesO S.prices tr) (paid tr S.prices.boards (endsL true S.prices.boards)) S.prices.offs.length := owes_ok okS (by rw [exy]; rfl) tok (ends_ok okS true) hz
      obtain ⟨O, hO⟩ : ∃ O, O = owesO S.prices tr := ⟨_, rfl⟩
      rw [← hO] at OK
      have p15 := f35.get' fH13.ok p13
      have D15 := D13.fr fH13.ok f35
      have fH15 := fH13.trans f35
      clear D13 p13 so13 D12 D11 so11 p11
      refine W_for [4, 18, 19, 20, 21, 189, 190, 191, 192, 193, 194, 195, 196, 197, 198, 199, 200, 201, 202, 203, 204, 205, 206, 207, 208, 209, 210, 211, 212, 213, 214, 215, 216, 217, 218, 219, 220, 221, 222, 223, 224, 225, 226, 227, 228, 229, 230, 231, 232, 233, 234, 235, 236, 237, 238, 239, 240, 241, 242, 243, 244, 245, 246, 247, 248, 249, 250, 251, 252, 253, 254, 255, 256, 257, 258, 259, 260, 261] 19 s.offs.length (fun i g h' => ∃ l p w, g 18 = .int .i64 (sumI (O.take i)) ∧ Paying S k x.hi y.hi l i p ∧ IsDesk H.next h' d S (l.map Ent.entry) w ∧
        h'.get h8.next = some (.row [.int .i64 (paid tr S'.boards (endsL false S'.boards)), .int .i64 (paid tr S'.boards (endsL true S'.boards))] 0 true) ∧ Fr H h')
        (by simp only [upd_at, Nat.reduceEqDiff, ↓reduceIte]) ⟨_, _, w2, by simp only [upd_at, Nat.reduceEqDiff, ↓reduceIte, List.take_zero]; rfl, P0, D15, p15, fH15⟩ ?_ ?_
      · rintro i g3 h16 hi ag3 g19 ⟨l, p, w3, g18, PP, D16, p16, fH16⟩ ih
        have k16 := fH16.ok
        have rS16 := fH16.row' f5.ok rS
        obtain ⟨z, hz'⟩ : ∃ z, O[i]? = some z := ⟨_, List.getElem?_eq_getElem (by rw [OK.len]; omega)⟩
        have zb := OK.all z (List.mem_of_getElem? hz')
        obtain ⟨A, eo, ea, el', eh', eS'⟩ := PP.agreed exy et okS
        have n16 := fH16.next
        have ll := PP.len
        have pl := PP.plen
        simp (maxDischargeDepth := 30) only [AA, ↓reduceIte, Nat.reduceLT, Nat.reduceEqDiff, Nat.reduceAdd, Nat.reduceMul, reduceCtorEq, Nat.reduceLeDiff, Int.reduceNe, Int.reduceEq, XH, F5_S13, ag.r, ag2.r, ag3.r, NE, g19, k16, rS16, lt_t hi, bs_22]
        have f17 := ex_fr [.row [.int .i64 (i : Int)] 1 true] (Fr.refl k16)
        have lv := LS.of_row (sp := some 1) (c := 1) (xs := [(i : Int)]) ints_len (rx_at0 (h := h16) (c := [.int .i64 (i : Int)]) (s := 1) (o := true) (l := []) rfl)
        generalize (h16.ex [.row [.int .i64 (i : Int)] 1 true]) = h17 at f17 lv ⊢
        have n17 := f17.next
        have D17 := D16.fr k16 f17
        refine W_call (ask_x f17.ok (by omega) D17 PP.went sm ec eb ho (by omega) lv (.inr (.inr (.inl ⟨rfl, rfl, rfl⟩))) (out := [z]) (by simp) fun M h1 p' sv u k1 h01 _ st lu => askOwes_d k1 h01 st A lu (by rw [eo, ← hO]; exact hz') (by rw [ea]; omega) (by rw [ea]; omega)) ?_
        rintro _ h18 ⟨⟨u, rfl, su⟩, f18⟩
        have n18 := f18.next
        have D18 := D17.fr f17.ok f18
        have p18 := f18.get' f17.ok (f17.get' k16 p16)
        have fH18 := (fH16.trans f17).trans f18
        have suu := su
        rcases su with ⟨_, e0, _⟩ | ⟨bu, rfl, _, _, gu, _⟩
        · simp [ints] at e0
        have ru : rowAt h18 bu = some [.int .i64 z] := by unfold rowAt; rw [gu]; rfl
        have ix : aIndexAddr CC 22 (.slice (some ⟨bu, 0, some 1⟩) 1 1) (.int .i64 0) = some (.pointer (some ⟨bu, 0, none⟩)) := ix_0 (show 0 < 1 by omega)
        have q1 : decide (z < 0) = false := decide_eq_false (by omega)
        have q2 : decide (z > 100000) = false := decide_eq_false (by omega)
        have sb : -300000 ≤ sumI (O.take i) ∧ sumI (O.take i) ≤ 300000 := by
          have b := sumI_bound (B := 100000) (l := O.take i) fun y hy => OK.all y (List.mem_of_mem_take hy)
          have b2 : ((O.take i).length : Int) ≤ 3 := by rw [List.length_take, OK.len]; omega
          omega
        have ws : IntKind.i64.wrap (sumI (O.take i) + z) = sumI (O.take (i + 1)) := by
          rw [wrap64 (by omega) (by omega), take_snoc hz', sumI_app]
        simp (maxDischargeDepth := 30) only [AA, ↓reduceIte, Nat.reduceLT, Nat.reduceEqDiff, Nat.reduceAdd, Nat.reduceMul, reduceCtorEq, Nat.reduceLeDiff, Int.reduceNe, Int.reduceEq, XH, F5_S13, ag.r, ag2.r, ag3.r, NE, g18, g19, f18.ok, ru, ix, q1, q2, ws, show (((1 : Nat) : Int) != 1) = false from rfl, z00]
        have i1000 : s.offs.length ≤ 1000 := by omega
        cases big : decide (z > 9999) with
        | true =>
          simp (maxDischargeDepth := 30) only [AA, ↓reduceIte, Nat.reduceLT, Nat.reduceEqDiff, Nat.reduceAdd, Nat.reduceMul, reduceCtorEq, Nat.reduceLeDiff, Int.reduceNe, Int.reduceEq, XH, F5_S13, ag.r, ag2.r, ag3.r, NE, g19, f18.ok, big, i_next hi i1000]
          exact ih _ _ (by simp only [AG, Nat.reduceEqDiff, ag3]) (by simp only [upd_at, ↓reduceIte]) ⟨l, p, w3, by simp only [upd_at, Nat.reduceEqDiff, ↓reduceIte], PP.skip, D18, p18, fH18⟩
        | false =>
        have z9 : z ≤ 9999 := by have := of_decide_eq_false big; omega
        simp (maxDischargeDepth := 30) only [AA, ↓reduceIte, Nat.reduceLT, Nat.reduceEqDiff, Nat.reduceAdd, Nat.reduceMul, reduceCtorEq, Nat.reduceLeDiff, Int.reduceNe, Int.reduceEq, XH, F5_S13, ag.r, ag2.r, ag3.r, NE, g19, f18.ok, big, ru, ix, bs_two]
        cases pos : decide (z > 0) with
        | true =>
          have z0 : 0 < z := of_decide_eq_true pos
          simp (maxDischargeDepth := 30) only [AA, ↓reduceIte, Nat.reduceLT, Nat.reduceEqDiff, Nat.reduceAdd, Nat.reduceMul, reduceCtorEq, Nat.reduceLeDiff, Int.reduceNe, Int.reduceEq, XH, F5_S13, ag.r, ag2.r, ag3.r, NE, g19, f18.ok, big, ru, ix, bs_two]
          have f19 := ex_fr [.row [.int .i64 (i : Int), .int .i64 z] 1 true] (Fr.refl f18.ok)
          have lv1 := LS.of_row (sp := some 1) (c := 2) (xs := [(i : Int), z]) ints_len (rx_at0 (h := h18) (c := [.int .i64 (i : Int), .int .i64 z]) (s := 1) (o := true) (l := []) rfl)
          generalize (h18.ex [.row [.int .i64 (i : Int), .int .i64 z] 1 true]) = h19 at f19 lv1 ⊢
          have n19 := f19.next
          have hp0 : p[i]? = some 0 := PP.zero i (Nat.le_refl _) (by omega)
          refine W_call (entered_x (.pay i z) (P0 := 0 + z ≤ z) f19.ok (by omega) (D18.fr f18.ok f19) PP.went sm ec eb ho (by omega) (formed_2 (.inr (.inr rfl)) (by omega) (by omega)) lv1 (by omega) (pay_goes PP exy et okS hp0 (by rw [← hO]; exact hz') (by omega) (by omega))) ?_
          rintro _ h20 ⟨rfl, ⟨w4, DX, _⟩, g20⟩
          have kX := g20.ok
          have PPX := PP.paid (x := z) (by omega) (by omega)
          have zX : (p.set i z)[i]? = some z := by rw [List.getElem?_set_self (by omega)]
          have fHX := (D18.fr f18.ok f19).fH f19.ok (fH18.trans f19) g20
          have pX := (D18.fr f18.ok f19).kp f19.ok g20 (f19.get' f18.ok p18) (by simp)
          have suX := (D18.fr f18.ok f19).ks f19.ok g20 (suu.fr f18.ok f19)
          simp (maxDischargeDepth := 30) only [AA, ↓reduceIte, Nat.reduceLT, Nat.reduceEqDiff, Nat.reduceAdd, Nat.reduceMul, reduceCtorEq, Nat.reduceLeDiff, Int.reduceNe, Int.reduceEq, XH, F5_S13, ag.r, ag2.r, ag3.r, NE, g19, kX, bs_two]
          have f22 := ex_fr [.row [.int .i64 (i : Int), .int .i64 1] 1 true] (Fr.refl kX)
          have lv2 := LS.of_row (sp := some 1) (c := 2) (xs := [(i : Int), 1]) ints_len (rx_at0 (h := h20) (c := [.int .i64 (i : Int), .int .i64 1]) (s := 1) (o := true) (l := []) rfl)
          generalize (h20.ex [.row [.int .i64 (i : Int), .int .i64 1] 1 true]) = h22 at f22 lv2 ⊢
          have n22 := f22.next
          have nX := fHX.next
          have llX := PPX.len
          refine W_call (enter_x (.pay i 1) (P0 := z + 1 ≤ z) f22.ok (by omega) (DX.fr kX f22) PPX.went sm ec eb ho (by omega) (formed_2 (.inr (.inr rfl)) (by omega) (by omega)) lv2 (pay_goes PPX exy et okS zX (by rw [← hO]; exact hz') (by omega) (by omega))) ?_
          rintro _ h23 ⟨hc, g23⟩
          rcases hc with ⟨hf, _⟩ | ⟨_, rfl, D23⟩
          · omega
          have fH23 := (DX.fr kX f22).fH f22.ok (fHX.trans f22) g23
          have p23 := (DX.fr kX f22).kp f22.ok g23 (f22.get' kX pX) (by simp)
          have su23 := (DX.fr kX f22).ks f22.ok g23 (suX.fr kX f22)
          simp (maxDischargeDepth := 30) only [AA, ↓reduceIte, Nat.reduceLT, Nat.reduceEqDiff, Nat.reduceAdd, Nat.reduceMul, reduceCtorEq, Nat.reduceLeDiff, Int.reduceNe, Int.reduceEq, XH, F5_S13, ag.r, ag2.r, ag3.r, NE, g19, fH23.ok, bs_22, show ((7 : Int) != 7) = false from rfl]
          have f24 := ex_fr [.row [.int .i64 (i : Int)] 1 true] (Fr.refl fH23.ok)
          have lv3 := LS.of_row (sp := some 1) (c := 1) (xs := [(i : Int)]) ints_len (rx_at0 (h := h23) (c := [.int .i64 (i : Int)]) (s := 1) (o := true) (l := []) rfl)
          generalize (h23.ex [.row [.int .i64 (i : Int)] 1 true]) = h24 at f24 lv3 ⊢
          have n24 := f24.next
          have n23 := fH23.next
          obtain ⟨_, _, eaX, _, _, _⟩ := PPX.agreed exy et okS
          have plX := PPX.plen
          refine W_call (told_x f24.ok (by omega) (D23.fr fH23.ok f24) PPX.went sm ec eb ho (by omega) lv3 (.inr (.inr (.inr ⟨rfl, rfl, rfl⟩))) (out := [z]) (by simp) (SL.ls (xs := [z]) ints_len (su23.fr fH23.ok f24)) fun M h1 p' sv u k1 h01 _ st lu => askPaid_d k1 st lu (by rw [eaX]; exact zX) (by rw [eaX]; omega)) ?_
          rintro _ h25 ⟨rfl, f25⟩
          simp (maxDischargeDepth := 30) only [AA, ↓reduceIte, Nat.reduceLT, Nat.reduceEqDiff, Nat.reduceAdd, Nat.reduceMul, reduceCtorEq, Nat.reduceLeDiff, Int.reduceNe, Int.reduceEq, XH, F5_S13, ag.r, ag2.r, ag3.r, NE, g19, f25.ok, i_next hi i1000]
          exact ih _ _ (by simp only [AG, Nat.reduceEqDiff, ag3]) (by simp only [upd_at, ↓reduceIte]) ⟨_, _, _, by simp only [upd_at, Nat.reduceEqDiff, ↓reduceIte], PPX, (D23.fr fH23.ok f24).fr f24.ok f25, (f24.trans f25).get' fH23.ok p23, fH23.trans (f24.trans f25)⟩
        | false =>
          have z0 : z = 0 := by have := of_decide_eq_false pos; omega
          have kX := f18.ok
          have DX := D18
          have PPX := PP.skip
          have zX : p[i]? = some z := by rw [z0]; exact PP.zero i (Nat.le_refl _) (by omega)
          have fHX := fH18
          have pX := p18
          have suX := suu
          simp (maxDischargeDepth := 30) only [AA, ↓reduceIte, Nat.reduceLT, Nat.reduceEqDiff, Nat.reduceAdd, Nat.reduceMul, reduceCtorEq, Nat.reduceLeDiff, Int.reduceNe, Int.reduceEq, XH, F5_S13, ag.r, ag2.r, ag3.r, NE, g19, kX, bs_two]
          have f22 := ex_fr [.row [.int .i64 (i : Int), .int .i64 1] 1 true] (Fr.refl kX)
          have lv2 := LS.of_row (sp := some 1) (c := 2) (xs := [(i : Int), 1]) ints_len (rx_at0 (h := h18) (c := [.int .i64 (i : Int), .int .i64 1]) (s := 1) (o := true) (l := []) rfl)
          generalize (h18.ex [.row [.int .i64 (i : Int), .int .i64 1] 1 true]) = h22 at f22 lv2 ⊢
          have n22 := f22.next
          have nX := fHX.next
          have llX := PPX.len
          refine W_call (enter_x (.pay i 1) (P0 := z + 1 ≤ z) f22.ok (by omega) (DX.fr kX f22) PPX.went sm ec eb ho (by omega) (formed_2 (.inr (.inr rfl)) (by omega) (by omega)) lv2 (pay_goes PPX exy et okS zX (by rw [← hO]; exact hz') (by omega) (by omega))) ?_
          rintro _ h23 ⟨hc, g23⟩
          rcases hc with ⟨hf, _⟩ | ⟨_, rfl, D23⟩
          · omega
          have fH23 := (DX.fr kX f22).fH f22.ok (fHX.trans f22) g23
          have p23 := (DX.fr kX f22).kp f22.ok g23 (f22.get' kX pX) (by simp)
          have su23 := (DX.fr kX f22).ks f22.ok g23 (suX.fr kX f22)
          simp (maxDischargeDepth := 30) only [AA, ↓reduceIte, Nat.reduceLT, Nat.reduceEqDiff, Nat.reduceAdd, Nat.reduceMul, reduceCtorEq, Nat.reduceLeDiff, Int.reduceNe, Int.reduceEq, XH, F5_S13, ag.r, ag2.r, ag3.r, NE, g19, fH23.ok, bs_22, show ((7 : Int) != 7) = false from rfl]
          have f24 := ex_fr [.row [.int .i64 (i : Int)] 1 true] (Fr.refl fH23.ok)
          have lv3 := LS.of_row (sp := some 1) (c := 1) (xs := [(i : Int)]) ints_len (rx_at0 (h := h23) (c := [.int .i64 (i : Int)]) (s := 1) (o := true) (l := []) rfl)
          generalize (h23.ex [.row [.int .i64 (i : Int)] 1 true]) = h24 at f24 lv3 ⊢
          have n24 := f24.next
          have n23 := fH23.next
          obtain ⟨_, _, eaX, _, _, _⟩ := PPX.agreed exy et okS
          have plX := PPX.plen
          refine W_call (told_x f24.ok (by omega) (D23.fr fH23.ok f24) PPX.went sm ec eb ho (by omega) lv3 (.inr (.inr (.inr ⟨rfl, rfl, rfl⟩))) (out := [z]) (by simp) (SL.ls (xs := [z]) ints_len (su23.fr fH23.ok f24)) fun M h1 p' sv u k1 h01 _ st lu => askPaid_d k1 st lu (by rw [eaX]; exact zX) (by rw [eaX]; omega)) ?_
          rintro _ h25 ⟨rfl, f25⟩
          simp (maxDischargeDepth := 30) only [AA, ↓reduceIte, Nat.reduceLT, Nat.reduceEqDiff, Nat.reduceAdd, Nat.reduceMul, reduceCtorEq, Nat.reduceLeDiff, Int.reduceNe, Int.reduceEq, XH, F5_S13, ag.r, ag2.r, ag3.r, NE, g19, f25.ok, i_next hi i1000]
          exact ih _ _ (by simp only [AG, Nat.reduceEqDiff, ag3]) (by simp only [upd_at, ↓reduceIte]) ⟨_, _, _, by simp only [upd_at, Nat.reduceEqDiff, ↓reduceIte], PPX, (D23.fr fH23.ok f24).fr f24.ok f25, (f24.trans f25).get' fH23.ok p23, fH23.trans (f24.trans f25)⟩
      · rintro g3 h16 ag3 g19 ⟨l, p, w3, g18, PP, D16, p16, fH16⟩
        have k16 := fH16.ok
        have rS16 := fH16.row' f5.ok rS
        have rP16 : rowAt h16 h8.next = some [.int .i64 (paid tr S'.boards (endsL false S'.boards)), .int .i64 (paid tr S'.boards (endsL true S'.boards))] := by unfold rowAt; rw [p16]; rfl
        have fin : sumI (O.take s.offs.length) = paid tr S'.boards (endsL true S'.boards) := by
          rw [List.take_of_length_le (by rw [OK.len]; omega), OK.sum, ep]
        rw [fin] at g18
        simp (maxDischargeDepth := 30) only [AA, ↓reduceIte, Nat.reduceLT, Nat.reduceEqDiff, Nat.reduceAdd, Nat.reduceMul, reduceCtorEq, Nat.reduceLeDiff, Int.reduceNe, Int.reduceEq, XH, F5_S13, ag.r, ag2.r, ag3.r, NE, g18, g19, k16, rS16, rP16, lt_f, known_d, beq_self_eq_true]
        exact ⟨trivial, fhH.trans fH16⟩
end Go.Am
