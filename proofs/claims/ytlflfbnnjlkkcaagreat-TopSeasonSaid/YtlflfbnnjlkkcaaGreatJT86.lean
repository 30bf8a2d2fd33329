/- Parts T86, T87, T88, T89 of the abstract machine over this program, joined: what each part says stands at its head. -/
import Derived.Test.YtlflfbnnjlkkcaaGreatJT85
set_option linter.unusedSimpArgs false
set_option linter.unusedVariables false
set_option linter.defProp false
namespace Go.Am
open Go Go.Proofs
def F32_T86 := A2 @fp_38_1 <| A2 @fp_47_1 <| A2 @fp_49_0 <| A2 @fp_49_1 <| A2 @fp_49_2 <| A2 @fp_49_3 <| A2 @fp_49_4 <| A2 @fp_49_5 <| A2 @fp_49_6 <| A2 @ld_22 <| A2 @ld_28 <| A2 @ld_32 <| A2 @ld_35 <| A2 @ld_38 <| A2 @ld_43 <| A2 @ld_44 <| A2 @ld_47 <| A2 @len_22 @len_44
def exD : SuiteD where
  front := ⟨[6, 4, 8], [⟨0, 1, 1, 3⟩, ⟨2, 0, 0, 2⟩], ⟨2, 4⟩, ⟨5, 8⟩, 3, [⟨[2, 0, 1], [], false⟩, ⟨[0, 2], [1], true⟩], 21, 2⟩
  coats := ⟨[⟨6, 8⟩, ⟨4, 6⟩, ⟨8, 10⟩, ⟨2, 4⟩, ⟨6, 6⟩, ⟨5, 9⟩, ⟨8, 12⟩, ⟨4, 4⟩], [0, 1, 2, 3, 4, 5, 6, 7], [⟨9, 20⟩, ⟨10, 20⟩, ⟨8, 30⟩]⟩
  board := ⟨4, [[0, 1], [2, 1], [2, 3]]⟩
  bench := ⟨1, [5, 6], [⟨1, true, 2, 2, []⟩, ⟨0, false, 2, 3, []⟩, ⟨0, true, 1, 2, [1]⟩, ⟨1, false, 1, 3, [0]⟩]⟩
  tints := ⟨60, 40, 20, ⟨1, 2⟩, ⟨1, 1⟩, ⟨0, 0⟩, ⟨5, 5⟩, 5, [⟨⟨80, 82⟩, ⟨20, 20⟩, ⟨0, 2⟩⟩, ⟨⟨20, 22⟩, ⟨60, 60⟩, ⟨40, 40⟩⟩, ⟨⟨50, 50⟩, ⟨10, 12⟩, ⟨30, 30⟩⟩]⟩
  stock := [5, 5, 5]
  prices := ⟨[0, 25], [⟨7, 10, 3, 4, 0⟩, ⟨5, 6, 2, 2, 1⟩], [⟨1, 5, 3, 3, true⟩, ⟨2, 5, 4, 1, false⟩, ⟨3, 4, 1, 2, true⟩]⟩
def slA (b n : Nat) : Value := .slice (some ⟨b, 0, none⟩) n n
def exV (k : Nat) : SuiteV := ⟨slA k 3, slA (k + 1) 2, slA (k + 2) 2, slA (k + 6) 8, slA (k + 7) 8, slA (k + 8) 3, slA (k + 9) 3, slA (k + 13) 2, slA (k + 14) 4, slA (k + 17) 3, slA (k + 18) 3, slA (k + 19) 2, slA (k + 20) 2, slA (k + 21) 3⟩
theorem ex_cells (k : Nat) : cellsT suiteT k = exD.cells (exV k) := by kernel_rfl
def ExObj (H : Heap) (k : Nat) : Prop := ∀ j o, (objsT true suiteT k)[j]? = some o → H.get (k + j) = some o
theorem lp_at {Q : Nat → Prop} {α : Type} {H : Heap} {b s n : Nat} {xs : List α} {f : α → List Value} (hf : ∀ x, (f x).length = s) (hg : H.get b = some (.row (xs.flatMap f) s true)) (hn : n = xs.length) (hq : Q b) : LP Q H (slA b n) xs f s := by
  subst hn
  exact ⟨LS.of_row hf (by unfold rowAt; rw [hg]; rfl), fun _ b' hb => by simp [slA, blkOf] at hb; subst hb; exact hq⟩
theorem lp_nil {Q : Nat → Prop} {α : Type} {H : Heap} {f : α → List Value} {s : Nat} : LP Q H (.slice none 0 0) ([] : List α) f s := ⟨.inl ⟨rfl, _, _, rfl⟩, fun h => absurd rfl h⟩
theorem ex_suite {H : Heap} {k : Nat} (hx : ExObj H k) : IsSuite (fun b => k ≤ b ∧ b < k + 22) H (exV k) exD where
  w := lp_at (b := k + 0) ints_len (hx 0 _ (by kernel_rfl)) rfl ⟨by omega, by omega⟩
  pr := lp_at LPair.len (hx 1 _ (by kernel_rfl)) rfl ⟨by omega, by omega⟩
  wd := ⟨[⟨slA (k + 3) 3, .slice none 0 0, false⟩, ⟨slA (k + 4) 2, slA (k + 5) 1, true⟩], lp_at WordV.len (hx 2 _ (by kernel_rfl)) rfl ⟨by omega, by omega⟩, rfl, fun i u w hu hw => by
    match i, hu, hw with
    | 0, hu, hw => simp at hu; simp [exD] at hw; subst hu; subst hw; exact ⟨lp_at ints_len (hx 3 _ (by kernel_rfl)) rfl ⟨by omega, by omega⟩, lp_nil, rfl⟩
    | 1, hu, hw => simp at hu; simp [exD] at hw; subst hu; subst hw; exact ⟨lp_at ints_len (hx 4 _ (by kernel_rfl)) rfl ⟨by omega, by omega⟩, lp_at ints_len (hx 5 _ (by kernel_rfl)) rfl ⟨by omega, by omega⟩, rfl⟩
    | i + 2, hu, hw => simp at hu⟩
  dry := lp_at Sp.len (hx 6 _ (by kernel_rfl)) rfl ⟨by omega, by omega⟩
  wk := lp_at ints_len (hx 7 _ (by kernel_rfl)) rfl ⟨by omega, by omega⟩
  ct := lp_at CoatC.len (hx 8 _ (by kernel_rfl)) rfl ⟨by omega, by omega⟩
  sp := ⟨[slA (k + 10) 2, slA (k + 11) 2, slA (k + 12) 2], lp_at unit_len (hx 9 _ (by kernel_rfl)) rfl ⟨by omega, by omega⟩, rfl, fun i u w hu hw => by
    match i, hu, hw with
    | 0, hu, hw => simp at hu; simp [exD] at hw; subst hu; subst hw; exact lp_at (n := 2) ints_len (hx 10 _ (by kernel_rfl)) rfl ⟨by omega, by omega⟩
    | 1, hu, hw => simp at hu; simp [exD] at hw; subst hu; subst hw; exact lp_at (n := 2) ints_len (hx 11 _ (by kernel_rfl)) rfl ⟨by omega, by omega⟩
    | 2, hu, hw => simp at hu; simp [exD] at hw; subst hu; subst hw; exact lp_at (n := 2) ints_len (hx 12 _ (by kernel_rfl)) rfl ⟨by omega, by omega⟩
    | i + 3, hu, hw => simp at hu⟩
  bo := lp_at ints_len (hx 13 _ (by kernel_rfl)) rfl ⟨by omega, by omega⟩
  st := ⟨[⟨1, true, 2, 2, .slice none 0 0⟩, ⟨0, false, 2, 3, .slice none 0 0⟩, ⟨0, true, 1, 2, slA (k + 15) 1⟩, ⟨1, false, 1, 3, slA (k + 16) 1⟩], lp_at StrokeV.len (hx 14 _ (by kernel_rfl)) rfl ⟨by omega, by omega⟩, rfl, fun i u w hu hw => by
    match i, hu, hw with
    | 0, hu, hw => simp at hu; simp [exD] at hw; subst hu; subst hw; exact ⟨rfl, rfl, rfl, rfl, lp_nil, fun _ => rfl⟩
    | 1, hu, hw => simp at hu; simp [exD] at hw; subst hu; subst hw; exact ⟨rfl, rfl, rfl, rfl, lp_nil, fun _ => rfl⟩
    | 2, hu, hw => simp at hu; simp [exD] at hw; subst hu; subst hw; exact ⟨rfl, rfl, rfl, rfl, lp_at ints_len (hx 15 _ (by kernel_rfl)) rfl ⟨by omega, by omega⟩, fun h => by simp at h⟩
    | 3, hu, hw => simp at hu; simp [exD] at hw; subst hu; subst hw; exact ⟨rfl, rfl, rfl, rfl, lp_at ints_len (hx 16 _ (by kernel_rfl)) rfl ⟨by omega, by omega⟩, fun h => by simp at h⟩
    | i + 4, hu, hw => simp at hu⟩
  ti := lp_at Tin.len (hx 17 _ (by kernel_rfl)) rfl ⟨by omega, by omega⟩
  of := lp_at ints_len (hx 19 _ (by kernel_rfl)) rfl ⟨by omega, by omega⟩
  bd := lp_at Board.len (hx 20 _ (by kernel_rfl)) rfl ⟨by omega, by omega⟩
  tr := lp_at Tar.len (hx 21 _ (by kernel_rfl)) rfl ⟨by omega, by omega⟩
noncomputable def dtOf (A : List (Bool × DT)) : DT := match A with | a :: _ => a.2 | [] => .nil
theorem sub_at {H : Heap} {k n : Nat} {L A M B : List AObj} (hx : ∀ j o, L[j]? = some o → H.get (k + j) = some o) (hl : L = A ++ (M ++ B)) (hn : A.length = n) : ∀ j o, M[j]? = some o → H.get (k + n + j) = some o := fun j o hj => by
  have := hx (n + j) o (by
    rw [hl, List.getElem?_append_right (by omega), show n + j - A.length = j by omega, List.getElem?_append_left (List.getElem?_eq_some_iff.1 hj).1]; exact hj)
  rw [show k + n + j = k + (n + j) by omega]; exact this
structure ExIn (h : Heap) (u : SuiteV) : Prop where
  front : matchT h false (dtOf letterRows0A) [u.w, u.pr, .int .i64 2, .int .i64 4, .int .i64 5, .int .i64 8, .int .i64 3, u.wd, .int .i64 21, .int .i64 2] = true
  coats : matchT h false (dtOf coatFirst0A) [u.dry, u.wk, u.ct] = true
  board : matchT h false (dtOf stripFirst0A) [.int .i64 4, u.sp] = true
  bench : matchT h false (dtOf benchCheck0A) [.int .i64 1, u.bo, u.st] = true
  tints : matchT h false (dtOf tintCheck0A) (exD.tints.cells u.ti) = true
theorem ExIn.fr {h h' : Heap} {u : SuiteV} (q : ExIn h u) (hk : HOK h) (f : Fr h h') : ExIn h' u :=
  ⟨match_fr hk f _ _ (by kernel_rfl) q.front, match_fr hk f _ _ (by kernel_rfl) q.coats, match_fr hk f _ _ (by kernel_rfl) q.board, match_fr hk f _ _ (by kernel_rfl) q.bench, match_fr hk f _ _ (by kernel_rfl) q.tints⟩
theorem ex_in {H : Heap} {k : Nat} (hx : ExObj H k) : ExIn H (exV k) where
  front := match_at H (dtOf letterRows0A) (k + 0) (by kernel_rfl) (sub_at hx (n := 0) (A := []) (B := (objsT true suiteT k).drop 6) (by kernel_rfl) rfl)
  coats := match_at H (dtOf coatFirst0A) (k + 6) (by kernel_rfl) (sub_at hx (A := (objsT true suiteT k).take 6) (B := (objsT true suiteT k).drop 9) (by kernel_rfl) (by kernel_rfl))
  board := match_at H (dtOf stripFirst0A) (k + 9) (by kernel_rfl) (sub_at hx (A := (objsT true suiteT k).take 9) (B := (objsT true suiteT k).drop 13) (by kernel_rfl) (by kernel_rfl))
  bench := match_at H (dtOf benchCheck0A) (k + 13) (by kernel_rfl) (sub_at hx (A := (objsT true suiteT k).take 13) (B := (objsT true suiteT k).drop 17) (by kernel_rfl) (by kernel_rfl))
  tints := match_at H (dtOf tintCheck0A) (k + 17) (by kernel_rfl) (sub_at hx (A := (objsT true suiteT k).take 17) (B := (objsT true suiteT k).drop 18) (by kernel_rfl) (by kernel_rfl))
theorem res_front (k : Nat) : resOf letterRows0R k = .tuple ⟨[.int .i64 2, .int .i64 0]⟩ := by kernel_rfl
theorem res_coats (k : Nat) : resOf coatFirst0R k = .tuple ⟨[slA k 3, .int .i64 0]⟩ := by kernel_rfl
theorem res_board (k : Nat) : resOf stripFirst0R k = .tuple ⟨[slA k 4, .int .i64 0]⟩ := by kernel_rfl
theorem res_bench (k : Nat) : resOf benchCheck0R k = .int .i64 0 := by kernel_rfl
theorem res_tints (k : Nat) : resOf tintCheck0R k = .int .i64 0 := by kernel_rfl
theorem stock1 (n : Int) (h : Heap) : callF CC (Lim CC) 194 [.int .i64 n] h = some (.ret (.bool (!inP n 0 40)) h none) := by
  refine CW.eq (CW_in Tryz.f194 (by kernel_rfl) (by kernel_rfl) rfl rfl ?_)
  simp only [Tryz.f194]
  simp (maxDischargeDepth := 30) only [AA, ↓reduceIte, Nat.reduceLT, Nat.reduceEqDiff, Nat.reduceAdd, Nat.reduceMul, reduceCtorEq, Nat.reduceLeDiff, Int.reduceNe, Int.reduceEq, L_nil, in_d]
  try exact ⟨rfl, trivial⟩
theorem isStock_d {h : Heap} (hk : HOK h) {s : TintS} {v w : Value} {l : List Int} (hv : LS h v s.tins Tin.cells 6) (hw : LS h w l ints 1) (hl : l.length = s.tins.length) (hn : l.length ≤ 1000) (hb : l.any (fun n => !inP n 0 40) = false) :
    CW CC 85 [.agg ⟨s.cells v⟩, w] h fun r h' => r = .bool true ∧ Fr h h' := by
  obtain ⟨q, c, rfl⟩ := hv.len
  obtain ⟨q', c', rfl⟩ := hw.len
  refine CW_in Tryz.f85 (by kernel_rfl) (by kernel_rfl) rfl rfl ?_
  simp only [Tryz.f85]
  have f1 := ex_fr [.row (s.cells (.slice q s.tins.length c)) 0 true] (Fr.refl hk)
  have c12 : (s.cells (.slice q s.tins.length c))[12]? = some (.slice q s.tins.length c) := rfl
  have e : ((l.length : Int) == (s.tins.length : Int)) = true := by simp [hl]
  simp (maxDischargeDepth := 30) only [AA, ↓reduceIte, Nat.reduceLT, Nat.reduceEqDiff, Nat.reduceAdd, Nat.reduceMul, reduceCtorEq, Nat.reduceLeDiff, Int.reduceNe, Int.reduceEq, XH, fp_43_4, ld_41, len_22, len_41, hk, c12, e]
  refine W_call (contains_ints f1.ok (fun n => !inP n 0 40) (hw.fr hk f1) hn fun h6 f6 x _ => ⟨h6, ?_, Fr.refl f6.ok⟩) ?_
  · first | (rw [V_func]; exact stock1 x h6) | (rw [V_clo]; exact stock1 x h6)
  rintro _ h2 ⟨rfl, f2⟩
  rw [hb]
  simp (maxDischargeDepth := 30) only [AA, ↓reduceIte, Nat.reduceLT, Nat.reduceEqDiff, Nat.reduceAdd, Nat.reduceMul, reduceCtorEq, Nat.reduceLeDiff, Int.reduceNe, Int.reduceEq, XH, fp_43_4, ld_41, len_22, len_41, f2.ok]
  exact ⟨trivial, f1.trans f2⟩
theorem fits_d {h : Heap} (hk : HOK h) {u : SuiteV} (q : ExIn h u) : CW CC 86 [.agg ⟨[u.w, u.pr, .int .i64 2, .int .i64 4, .int .i64 5, .int .i64 8, .int .i64 3, u.wd, .int .i64 21, .int .i64 2]⟩] h fun r h' => r = .bool true ∧ Fr h h' := by
  refine CW_in Tryz.f86 (by kernel_rfl) (by kernel_rfl) rfl rfl ?_
  simp only [Tryz.f86]
  have f1 := ex_fr [.row [u.w, u.pr, .int .i64 2, .int .i64 4, .int .i64 5, .int .i64 8, .int .i64 3, u.wd, .int .i64 21, .int .i64 2] 0 true] (Fr.refl hk)
  have e := closed_call (R := letterRows0R) (show CC.A 195 = some (closedSpec letterRows0A letterRows0R noSpec) by kernel_rfl) (match_one (q.fr hk f1).front)
  rw [res_front] at e
  simp (maxDischargeDepth := 30) only [AA, ↓reduceIte, Nat.reduceLT, Nat.reduceEqDiff, Nat.reduceAdd, Nat.reduceMul, reduceCtorEq, Nat.reduceLeDiff, Int.reduceNe, Int.reduceEq, XH, ld_28, hk, e, slA]
  exact ⟨rfl, ex_fr _ (Fr.refl hk)⟩
theorem holds_d {h : Heap} (hk : HOK h) {u : SuiteV} (q : ExIn h u) : CW CC 87 [.agg ⟨[u.dry, u.wk, u.ct]⟩] h fun r h' => r = .bool true ∧ Fr h h' := by
  refine CW_in Tryz.f87 (by kernel_rfl) (by kernel_rfl) rfl rfl ?_
  simp only [Tryz.f87]
  have f1 := ex_fr [.row [u.dry, u.wk, u.ct] 0 true] (Fr.refl hk)
  have e := closed_call (R := coatFirst0R) (show CC.A 10 = some (closedSpec coatFirst0A coatFirst0R noSpec) by kernel_rfl) (match_one (q.fr hk f1).coats)
  rw [res_coats] at e
  simp (maxDischargeDepth := 30) only [AA, ↓reduceIte, Nat.reduceLT, Nat.reduceEqDiff, Nat.reduceAdd, Nat.reduceMul, reduceCtorEq, Nat.reduceLeDiff, Int.reduceNe, Int.reduceEq, XH, ld_32, hk, e, slA]
  exact ⟨rfl, ex_fr _ (Fr.refl hk)⟩
theorem agrees_d {h : Heap} (hk : HOK h) {u : SuiteV} (q : ExIn h u) : CW CC 88 [.agg ⟨[.int .i64 4, u.sp]⟩] h fun r h' => r = .bool true ∧ Fr h h' := by
  refine CW_in Tryz.f88 (by kernel_rfl) (by kernel_rfl) rfl rfl ?_
  simp only [Tryz.f88]
  have f1 := ex_fr [.row [.int .i64 4, u.sp] 0 true] (Fr.refl hk)
  have e := closed_call (R := stripFirst0R) (show CC.A 11 = some (closedSpec stripFirst0A stripFirst0R noSpec) by kernel_rfl) (match_one (q.fr hk f1).board)
  rw [res_board] at e
  simp (maxDischargeDepth := 30) only [AA, ↓reduceIte, Nat.reduceLT, Nat.reduceEqDiff, Nat.reduceAdd, Nat.reduceMul, reduceCtorEq, Nat.reduceLeDiff, Int.reduceNe, Int.reduceEq, XH, ld_35, hk, e, slA]
  exact ⟨rfl, ex_fr _ (Fr.refl hk)⟩
theorem check_p {h : Heap} (hk : HOK h) {a b c : Value} {s : Sheet} (hs : IsSheet h a b c s) (ok : s.ok = true) : CW CC 14 [.agg ⟨[a, b, c]⟩] h fun r h' => r = .int .i64 0 ∧ Fr h h' := by
  obtain ⟨p1, c1, rfl, _⟩ := hs.offs.open
  obtain ⟨p2, c2, rfl, _⟩ := hs.boards.open
  obtain ⟨p3, c3, rfl, _⟩ := hs.tars.open
  refine CW_in Tryz.f14 (by kernel_rfl) (by kernel_rfl) rfl rfl ?_
  simp only [Tryz.f14]
  have f1 := ex_fr [.row [.slice p1 s.offs.length c1, .slice p2 s.boards.length c2, .slice p3 s.tars.length c3] 0 true] (Fr.refl hk)
  simp (maxDischargeDepth := 30) only [AA, ↓reduceIte, Nat.reduceLT, Nat.reduceEqDiff, Nat.reduceAdd, Nat.reduceMul, reduceCtorEq, Nat.reduceLeDiff, Int.reduceNe, Int.reduceEq, XH, ld_47, hk]
  refine W_call (isSheet_85 f1.ok (hs.fr hk f1)) ?_
  rintro _ h2 ⟨rfl, f2⟩
  simp (maxDischargeDepth := 30) only [AA, ↓reduceIte, Nat.reduceLT, Nat.reduceEqDiff, Nat.reduceAdd, Nat.reduceMul, reduceCtorEq, Nat.reduceLeDiff, Int.reduceNe, Int.reduceEq, XH, ld_47, f2.ok, ok]
  exact ⟨trivial, f1.trans f2⟩
theorem IsSuite.sheet {P : Nat → Prop} {h : Heap} {u : SuiteV} {S : SuiteD} (q : IsSuite P h u S) : IsSheet h u.of u.bd u.tr S.prices := ⟨q.of.1, q.bd.1, q.tr.1⟩
set_option maxRecDepth 10000 in
set_option maxHeartbeats 1000000 in
theorem isSuite_d {h : Heap} (hk : HOK h) {P : Nat → Prop} {u : SuiteV} {s : Sheet} (q : IsSuite P h u { exD with prices := s }) (hs : LS h u.sk [5, 5, 5] ints 1) (x : ExIn h u) (ok : s.ok = true) (two : s.boards.length = 2) :
    CW CC 32 [.agg ⟨SuiteD.cells { exD with prices := s } u⟩] h fun r h' => r = .bool true ∧ Fr h h' := by
  obtain ⟨p1, c1, e1⟩ := q.bo.1.len
  obtain ⟨p2, c2, e2⟩ := q.bd.1.len
  rw [show ({ exD with prices := s } : SuiteD).prices.boards.length = 2 from two] at e2
  refine CW_in Tryz.f32 (by kernel_rfl) (by kernel_rfl) rfl rfl ?_
  simp only [Tryz.f32]
  obtain ⟨R, hR⟩ : ∃ R, R = SuiteD.cells { exD with prices := s } u := ⟨_, rfl⟩
  have a1 : take? R 15 3 = some [.int .i64 1, u.bo, u.st] := by rw [hR]; rfl
  have a2 : take? R 18 13 = some (exD.tints.cells u.ti) := by rw [hR]; rfl
  have a3 : R[31]? = some u.sk := by rw [hR]; rfl
  have a4 : take? R 32 3 = some [u.of, u.bd, u.tr] := by rw [hR]; rfl
  have a5 : R[33]? = some (.slice p2 2 c2) := by rw [hR]; exact congrArg some e2
  have a6 : R[16]? = some (.slice p1 2 c1) := by rw [hR]; exact congrArg some e1
  have a7 : take? R 0 10 = some [u.w, u.pr, .int .i64 2, .int .i64 4, .int .i64 5, .int .i64 8, .int .i64 3, u.wd, .int .i64 21, .int .i64 2] := by rw [hR]; rfl
  have a8 : take? R 10 3 = some [u.dry, u.wk, u.ct] := by rw [hR]; rfl
  have a9 : take? R 13 2 = some [.int .i64 4, u.sp] := by rw [hR]; rfl
  rw [← hR]
  clear hR
  have f1 := ex_fr [.row R 0 true] (Fr.refl hk)
  have eB := closed_call (R := benchCheck0R) (show CC.A 84 = some (closedSpec benchCheck0A benchCheck0R noSpec) by kernel_rfl) (match_one (x.fr hk f1).bench)
  have eT := closed_call (R := tintCheck0R) (show CC.A 13 = some (closedSpec tintCheck0A tintCheck0R noSpec) by kernel_rfl) (match_one (x.fr hk f1).tints)
  rw [res_bench] at eB
  rw [res_tints] at eT
  have z00 : ((0 : Int) == 0) = true := rfl
  have z22 : (((2 : Nat) : Int) == ((2 : Nat) : Int)) = true := rfl
  have z0 : ∀ k, objsA true benchCheck0R k = [] := fun k => by kernel_rfl
  have z1 : ∀ k, objsA true tintCheck0R k = [] := fun k => by kernel_rfl
  simp (maxDischargeDepth := 30) only [AA, ↓reduceIte, Nat.reduceLT, Nat.reduceEqDiff, Nat.reduceAdd, Nat.reduceMul, reduceCtorEq, Nat.reduceLeDiff, Int.reduceNe, Int.reduceEq, XH, F32_T86, z00, hk, a1, a2, a3, eB, z0, eT, z1]
  refine W_call (isStock_d f1.ok (s := exD.tints) (q.ti.1.fr hk f1) (hs.fr hk f1) rfl (by decide) (by decide)) ?_
  rintro _ h3 ⟨rfl, f3⟩
  have f03 := f1.trans f3
  simp (maxDischargeDepth := 30) only [AA, ↓reduceIte, Nat.reduceLT, Nat.reduceEqDiff, Nat.reduceAdd, Nat.reduceMul, reduceCtorEq, Nat.reduceLeDiff, Int.reduceNe, Int.reduceEq, XH, F32_T86, z00, f3.ok, f3.S, hk, a4]
  refine W_call (check_p f3.ok (q.sheet.fr hk f03) ok) ?_
  rintro _ h2 ⟨rfl, f2⟩
  have f02 := f03.trans f2
  simp (maxDischargeDepth := 30) only [AA, ↓reduceIte, Nat.reduceLT, Nat.reduceEqDiff, Nat.reduceAdd, Nat.reduceMul, reduceCtorEq, Nat.reduceLeDiff, Int.reduceNe, Int.reduceEq, XH, F32_T86, z00, f2.ok, f2.S, f3.S, hk, a5, a6, a7, z22]
  refine W_call (fits_d f2.ok (x.fr hk f02)) ?_
  rintro _ h4 ⟨rfl, f4⟩
  have f04 := f02.trans f4
  simp (maxDischargeDepth := 30) only [AA, ↓reduceIte, Nat.reduceLT, Nat.reduceEqDiff, Nat.reduceAdd, Nat.reduceMul, reduceCtorEq, Nat.reduceLeDiff, Int.reduceNe, Int.reduceEq, XH, F32_T86, z00, f4.ok, f4.S, f3.S, f2.S, hk, a8]
  refine W_call (holds_d f4.ok (x.fr hk f04)) ?_
  rintro _ h5 ⟨rfl, f5⟩
  have f05 := f04.trans f5
  simp (maxDischargeDepth := 30) only [AA, ↓reduceIte, Nat.reduceLT, Nat.reduceEqDiff, Nat.reduceAdd, Nat.reduceMul, reduceCtorEq, Nat.reduceLeDiff, Int.reduceNe, Int.reduceEq, XH, F32_T86, z00, f5.ok, f5.S, f4.S, f3.S, f2.S, hk, a9]
  refine W_call (agrees_d f5.ok (x.fr hk f05)) ?_
  rintro _ h6 ⟨rfl, f6⟩
  simp (maxDischargeDepth := 30) only [AA, ↓reduceIte, Nat.reduceLT, Nat.reduceEqDiff, Nat.reduceAdd, Nat.reduceMul, reduceCtorEq, Nat.reduceLeDiff, Int.reduceNe, Int.reduceEq, XH, F32_T86, z00, f6.ok]
  exact ⟨trivial, f05.trans f6⟩
end Go.Am

namespace Go.Am
open Go Go.Proofs
def KV {α : Type} (K V : α → Value) (es : List MapEntry) (l : List α) : Prop := es.map (fun e => (e.key, e.val)) = l.map fun x => (K x, V x)
section
variable {α : Type} [DecidableEq α] {K V : α → Value}
theorem KV.find (hK : ∀ x y, keyEq (K x) (K y) = some (decide (x = y))) : ∀ {es : List MapEntry} {l : List α} (i : Nat) (x : α), KV K V es l → (x ∈ l → ∃ j, aFind (K x) es i = some (some (j, V x))) ∧ (x ∉ l → aFind (K x) es i = some none)
  | [], [], i, x, _ => ⟨fun h => by simp at h, fun _ => rfl⟩
  | e :: es, [], i, x, h => by simp [KV] at h
  | [], y :: l, i, x, h => by simp [KV] at h
  | e :: es, y :: l, i, x, h => by
    simp only [KV, List.map_cons, List.cons.injEq, Prod.mk.injEq] at h
    have ih := KV.find hK (i + 1) x (show KV K V es l from h.2)
    rw [aFind_cons, h.1.1, hK]
    by_cases e1 : x = y
    · subst e1
      exact ⟨fun _ => ⟨i, by simp [h.1.2]⟩, fun hn => absurd List.mem_cons_self hn⟩
    · simp only [decide_eq_false e1, List.mem_cons, e1, false_or]
      exact ih
omit [DecidableEq α] in
theorem KV.snoc {es : List MapEntry} {l : List α} (h : KV K V es l) (x : α) (c : Nat) : KV K V (es ++ [{ key := K x, val := V x, born := c }]) (l ++ [x]) := by
  unfold KV at *; simp [h]
end
def MR (h : Heap) (v : Value) (l : List Int) : Prop := (l = [] ∧ ∃ c, v = .slice none 0 c) ∨ ∃ b sp c, v = .slice (some ⟨b, 0, sp⟩) l.length c ∧ h.get b = some (.row (l.flatMap ints) 1 true)
theorem MR.keep {h h' : Heap} {v : Value} {l : List Int} (q : MR h v l) (hg : ∀ b, blkOf v = some b → h'.get b = h.get b) : MR h' v l := by
  rcases q with q | ⟨b, sp, c, rfl, h1⟩
  · exact .inl q
  · exact .inr ⟨b, sp, c, rfl, by rw [hg b rfl]; exact h1⟩
theorem MR.ls {h : Heap} {v : Value} {l : List Int} (q : MR h v l) : LS h v l ints 1 := by
  rcases q with ⟨e, c, e'⟩ | ⟨b, sp, c, rfl, h1⟩
  · exact .inl ⟨e, _, _, e'⟩
  · exact LS.of_row ints_len (by unfold rowAt; rw [h1]; rfl)
theorem SL.mr {N : Nat} {h : Heap} {v : Value} {l : List Int} (q : SL N h v (l.flatMap ints) 1 l.length) : MR h v l := by
  rcases q with ⟨rfl, _, e⟩ | ⟨b, rfl, _, _, h1, _⟩
  · exact .inl ⟨List.eq_nil_of_length_eq_zero e, _, rfl⟩
  · exact .inr ⟨b, _, _, rfl, h1⟩
structure StV where
  u : SuiteV
  plan : Value
  left : Nat
  hands : Value
  hours : Value
  paid : Value
  stands : Value
structure Sta where
  S : SuiteD
  day : Int
  plan : List Int
  laid : Int
  left : List Int
  hands : List Int
  hours : List Int
  tariff : Int
  paid : List Int
  stands : List Int
def Sta.cells (σ : Sta) (v : StV) : List Value := σ.S.cells v.u ++ [.int .i64 σ.day, v.plan, .int .i64 σ.laid, .map (some v.left), v.hands, v.hours, .int .i64 σ.tariff, v.paid, v.stands]
def Keys (es : List MapEntry) (l : List Int) : Prop := es.map (fun e => (e.key, e.val)) = l.map fun n => (.int .i64 n, .bool true)
def StV.Fix (v : StV) (N p : Nat) (b : Nat) : Prop := N ≤ b ∧ b ≠ p ∧ b ≠ v.left ∧ blkOf v.u.sk ≠ some b ∧ blkOf v.hands ≠ some b ∧ blkOf v.hours ≠ some b ∧ blkOf v.paid ≠ some b ∧ blkOf v.stands ≠ some b
def Apart (v w : Value) : Prop := ∀ b, blkOf v = some b → blkOf w ≠ some b
structure IsState (N : Nat) (h : Heap) (p : Nat) (σ : Sta) (v : StV) : Prop where
  row : h.get p = some (.row (σ.cells v) 0 true)
  suite : IsSuite (v.Fix N p) h v.u σ.S
  plan : LP (v.Fix N p) h v.plan σ.plan ints 1
  sk : MR h v.u.sk σ.S.stock
  hands : MR h v.hands σ.hands
  hours : MR h v.hours σ.hours
  paid : MR h v.paid σ.paid
  stands : SL N h v.stands (σ.stands.flatMap ints) 1 σ.stands.length
  left : ∃ es c, h.get v.left = some (.map es c) ∧ Keys es σ.left
  low : N ≤ p ∧ N ≤ v.left ∧ ∀ b, (blkOf v.u.sk = some b ∨ blkOf v.hands = some b ∨ blkOf v.hours = some b ∨ blkOf v.paid = some b) → N ≤ b
  a1 : Apart v.u.sk v.hands
  a2 : Apart v.u.sk v.hours
  a3 : Apart v.u.sk v.paid
  a4 : Apart v.u.sk v.stands
  a5 : Apart v.hands v.hours
  a6 : Apart v.hands v.paid
  a7 : Apart v.hands v.stands
  a8 : Apart v.hours v.paid
  a9 : Apart v.hours v.stands
  a10 : Apart v.paid v.stands
  hc : ∀ p n c, v.hands = .slice p n c → n ≤ c
theorem MR.noRow {h : Heap} {v : Value} {l : List Int} {b : Nat} {x : AObj} (q : MR h v l) (hg : h.get b = some x) (hx : ∀ c, x ≠ .row c 1 true) : blkOf v ≠ some b := by
  rcases q with ⟨rfl, c, rfl⟩ | ⟨b', sp, c, rfl, h1⟩
  · simp [blkOf]
  · intro e; simp [blkOf] at e; subst e; rw [h1] at hg; simp at hg; exact hx _ hg.symm
theorem stc_st (σ : Sta) (v : StV) : (σ.cells v)[43]? = some v.stands := rfl
theorem IsSuite.keep {P : Nat → Prop} {h h' : Heap} {u : SuiteV} {S : SuiteD} (q : IsSuite P h u S) (hg : ∀ b, P b → h'.get b = h.get b) : IsSuite P h' u S :=
  ⟨q.w.keep hg, q.pr.keep hg, by obtain ⟨us, q1, q2⟩ := q.wd; exact ⟨us, q1.keep hg, q2.map fun _ _ hu => hu.keep hg⟩, q.dry.keep hg, q.wk.keep hg, q.ct.keep hg, by obtain ⟨us, q1, q2⟩ := q.sp; exact ⟨us, q1.keep hg, q2.map fun _ _ hu => hu.keep hg⟩, q.bo.keep hg, by obtain ⟨us, q1, q2⟩ := q.st; exact ⟨us, q1.keep hg, q2.map fun _ _ hu => hu.keep hg⟩, q.ti.keep hg, q.of.keep hg, q.bd.keep hg, q.tr.keep hg⟩
theorem IsSuite.mono {P P' : Nat → Prop} {h : Heap} {u : SuiteV} {S : SuiteD} (q : IsSuite P h u S) (hp : ∀ b, P b → P' b) : IsSuite P' h u S :=
  ⟨q.w.mono hp, q.pr.mono hp, by obtain ⟨us, q1, q2⟩ := q.wd; exact ⟨us, q1.mono hp, q2.map fun _ _ hu => hu.mono hp⟩, q.dry.mono hp, q.wk.mono hp, q.ct.mono hp, by obtain ⟨us, q1, q2⟩ := q.sp; exact ⟨us, q1.mono hp, q2.map fun _ _ hu => hu.mono hp⟩, q.bo.mono hp, by obtain ⟨us, q1, q2⟩ := q.st; exact ⟨us, q1.mono hp, q2.map fun _ _ hu => hu.mono hp⟩, q.ti.mono hp, q.of.mono hp, q.bd.mono hp, q.tr.mono hp⟩
theorem IsSuite.fr {P : Nat → Prop} {h h' : Heap} {u : SuiteV} {S : SuiteD} (q : IsSuite P h u S) (hk : HOK h) (f : Fr h h') : IsSuite P h' u S :=
  ⟨q.w.fr hk f, q.pr.fr hk f, q.wd.fr hk f fun _ _ hu => hu.fr hk f, q.dry.fr hk f, q.wk.fr hk f, q.ct.fr hk f, q.sp.fr hk f fun _ _ hu => hu.fr hk f, q.bo.fr hk f, q.st.fr hk f fun _ _ hu => hu.fr hk f, q.ti.fr hk f, q.of.fr hk f, q.bd.fr hk f, q.tr.fr hk f⟩
theorem LP.rk {P : Nat → Prop} {α : Type} {h h' : Heap} {v : Value} {xs : List α} {f : α → List Value} {s : Nat} (q : LP P h v xs f s) (f' : RK h h') : LP P h' v xs f s := ⟨q.1.rk f', q.2⟩
theorem IsWord.rk {P : Nat → Prop} {h h' : Heap} {u : WordV} {w : LWord} (q : IsWord P h u w) (f : RK h h') : IsWord P h' u w := ⟨q.signs.rk f, q.cuts.rk f, q.free⟩
theorem IsStroke.rk {P : Nat → Prop} {h h' : Heap} {u : StrokeV} {w : BStroke} (q : IsStroke P h u w) (f : RK h h') : IsStroke P h' u w := ⟨q.board, q.round, q.lo, q.hi, q.needs.rk f, q.nil⟩
theorem IsRow.rk {P : Nat → Prop} {h h' : Heap} {u : Value} {w : List Int} (q : IsRow P h u w) (f : RK h h') : IsRow P h' u w := LP.rk q f
theorem LN.rk {P : Nat → Prop} {α β : Type} {R : (Nat → Prop) → Heap → α → β → Prop} {f : α → List Value} {s : Nat} {h h' : Heap} {v : Value} {ws : List β} (q : LN P R f s h v ws) (fr : RK h h') (hR : ∀ u w, R P h u w → R P h' u w) : LN P R f s h' v ws := by
  obtain ⟨us, q1, q2⟩ := q
  exact ⟨us, q1.rk fr, q2.map hR⟩
theorem IsSuite.rk {P : Nat → Prop} {h h' : Heap} {u : SuiteV} {S : SuiteD} (q : IsSuite P h u S) (f : RK h h') : IsSuite P h' u S :=
  ⟨q.w.rk f, q.pr.rk f, q.wd.rk f fun _ _ hu => hu.rk f, q.dry.rk f, q.wk.rk f, q.ct.rk f, q.sp.rk f fun _ _ hu => hu.rk f, q.bo.rk f, q.st.rk f fun _ _ hu => hu.rk f, q.ti.rk f, q.of.rk f, q.bd.rk f, q.tr.rk f⟩
theorem MR.rk {h h' : Heap} {v : Value} {l : List Int} (q : MR h v l) (f : RK h h') : MR h' v l := by
  rcases q with q | ⟨b, sp, c, e, h1⟩
  · exact .inl q
  · exact .inr ⟨b, sp, c, e, f.row _ _ _ _ h1⟩
theorem IsState.rk {N : Nat} {h h' : Heap} {p : Nat} {σ : Sta} {v : StV} (q : IsState N h p σ v) (f : RK h h') (hm : h'.get v.left = h.get v.left) : IsState N h' p σ v :=
  ⟨f.row _ _ _ _ q.row, q.suite.rk f, q.plan.rk f, q.sk.rk f, q.hands.rk f, q.hours.rk f, q.paid.rk f, q.stands.rk f, by obtain ⟨es, c, e, k⟩ := q.left; exact ⟨es, c, by rw [hm]; exact e, k⟩, q.low, q.a1, q.a2, q.a3, q.a4, q.a5, q.a6, q.a7, q.a8, q.a9, q.a10, q.hc⟩
theorem IsState.fr {N : Nat} {h h' : Heap} {p : Nat} {σ : Sta} {v : StV} (q : IsState N h p σ v) (hk : HOK h) (f : Fr h h') : IsState N h' p σ v :=
  q.rk (f.rk hk) (by obtain ⟨es, c, e, k⟩ := q.left; exact f.get _ (get_lt hk e))
end Go.Am

namespace Go.Am
open Go Go.Proofs
theorem ints_at {xs : List Int} {i : Nat} {x : Int} (hx : xs[i]? = some x) : (xs.flatMap ints)[i]? = some (.int .i64 x) := by
  have e : ∀ l : List Int, l.flatMap ints = l.map (Value.int .i64) := fun l => by induction l with
    | nil => rfl
    | cons a l ih => rw [List.flatMap_cons, ih]; rfl
  rw [e, List.getElem?_map, hx]; rfl
theorem ints_set (xs : List Int) (i : Nat) (y : Int) : (xs.flatMap ints).set i (.int .i64 y) = (xs.set i y).flatMap ints := by
  have e : ∀ l : List Int, l.flatMap ints = l.map (Value.int .i64) := fun l => by induction l with
    | nil => rfl
    | cons a l ih => rw [List.flatMap_cons, ih]; rfl
  rw [e, e, List.map_set]
def StV.Mut (v : StV) (p b : Nat) : Prop := b = p ∨ b = v.left ∨ blkOf v.u.sk = some b ∨ blkOf v.hands = some b ∨ blkOf v.hours = some b ∨ blkOf v.paid = some b
theorem IsState.mut_low {N : Nat} {h : Heap} {p : Nat} {σ : Sta} {v : StV} (q : IsState N h p σ v) {b : Nat} (hb : v.Mut p b) : N ≤ b := by
  rcases hb with rfl | rfl | hb | hb | hb | hb
  · exact q.low.1
  · exact q.low.2.1
  · exact q.low.2.2 b (.inl hb)
  · exact q.low.2.2 b (.inr (.inl hb))
  · exact q.low.2.2 b (.inr (.inr (.inl hb)))
  · exact q.low.2.2 b (.inr (.inr (.inr hb)))
end Go.Am

namespace Go.Am
open Go Go.Proofs
def F238_T89 := A2 @bs_22 <| A2 @fp_110_2 <| A2 @fp_80_0 <| A2 @ix_108 <| A2 @ix_22 <| A2 @ld_108 <| A2 @ld_3 <| A2 @ld_52 <| A2 @ld_77 <| A2 @ld_80 <| A2 @len_108 <| A2 @len_22 <| A2 @part_3 <| A2 @part_80 <| A2 @size_108 <| A2 @size_22 <| A2 @size_3 <| A2 @size_80 <| A2 @und_108 <| A2 @und_22 <| A2 @zero_108 <| A2 @zero_22 @zero_80
theorem LR.get' {α β : Type} {R : Heap → α → β → Prop} {h : Heap} {us : List α} {ws : List β} (q : LR R h us ws) {i : Nat} {u : α} (hu : us[i]? = some u) : ∃ w, ws[i]? = some w ∧ R h u w := by
  have hi : i < ws.length := by rw [← q.1]; exact (List.getElem?_eq_some_iff.1 hu).1
  exact ⟨ws[i], List.getElem?_eq_getElem hi, q.2 i u _ hu (List.getElem?_eq_getElem hi)⟩
structure EntryV where
  kind : Int
  nums : Value
def EntryV.cells (x : EntryV) : List Value := [.int .i64 x.kind, x.nums]
theorem EntryV.len (x : EntryV) : x.cells.length = 2 := rfl
structure Entry where
  kind : Int
  nums : List Int
def IsEntry (P : Nat → Prop) (h : Heap) (u : EntryV) (e : Entry) : Prop := u.kind = e.kind ∧ LP P h u.nums e.nums ints 1
structure DeskV where
  u : SuiteV
  ev : Value
  evs : List EntryV
def SuiteD.desk (S : SuiteD) (w : DeskV) : List Value := .bool true :: (S.cells w.u ++ [w.ev])
def DeskV.Fix (w : DeskV) (N d b : Nat) : Prop := N ≤ b ∧ b ≠ d ∧ blkOf w.ev ≠ some b
structure IsDesk (N : Nat) (h : Heap) (d : Nat) (S : SuiteD) (E : List Entry) (w : DeskV) : Prop where
  row : h.get d = some (.row (S.desk w) 0 true)
  low : N ≤ d
  suite : IsSuite (w.Fix N d) h w.u S
  sk : LP (w.Fix N d) h w.u.sk S.stock ints 1
  ent : SL N h w.ev (w.evs.flatMap EntryV.cells) 2 w.evs.length
  nums : LR (IsEntry (w.Fix N d)) h w.evs E
theorem IsDesk.fr {N : Nat} {h h' : Heap} {d : Nat} {S : SuiteD} {E : List Entry} {w : DeskV} (q : IsDesk N h d S E w) (hk : HOK h) (f : Fr h h') : IsDesk N h' d S E w :=
  ⟨f.get' hk q.row, q.low, q.suite.fr hk f, q.sk.fr hk f, q.ent.fr hk f, q.nums.map fun _ _ hu => ⟨hu.1, hu.2.fr hk f⟩⟩
theorem sd_0 (S : SuiteD) (w : DeskV) : (S.desk w)[0]? = some (.bool true) := rfl
theorem sd_su (S : SuiteD) (w : DeskV) : take? (S.desk w) 1 35 = some (S.cells w.u) := rfl
theorem sd_ev (S : SuiteD) (w : DeskV) : (S.desk w)[36]? = some w.ev := rfl
structure EatsN (J : (Nat → Prop) → Nat → Heap → Prop) (l : Nat) (hs : Heap) (evs : List EntryV) : Prop where
  low : ∀ F i h, J F i h → ∀ b, F b → hs.next ≤ b ∧ b < h.next
  stay : ∀ F i h h', J F i h → HOK h → Fr h h' → J F i h'
  round : ∀ F i h u, HOK h → 0 < h.next → Fr hs h → J F i h → evs[i]? = some u → ∃ h', yieldTo (Lim CC) l [.int .i64 i, .agg ⟨u.cells⟩] h = some (.ret (.bool true) h' none) ∧ Gr F h h' ∧ ∃ F', (∀ b, F' b → F b ∨ h.next ≤ b) ∧ J F' (i + 1) h'
def upto (n : Nat) : List Int := (List.range n).map fun (i : Nat) => (i : Int)
theorem upto_len (n : Nat) : (upto n).length = n := by simp [upto]
theorem upto_succ (n : Nat) : upto (n + 1) = upto n ++ [(n : Int)] := by simp [upto, List.range_succ]
theorem upto_at {n i : Nat} (hi : i < n) : (upto n)[i]? = some (i : Int) := by
  unfold upto; rw [List.getElem?_map, List.getElem?_range hi]; rfl
set_option maxRecDepth 10000 in
set_option maxHeartbeats 1000000 in
theorem standing1 {hs h0 : Heap} (hks : HOK hs) (f0 : Fr hs h0) (hp : 0 < h0.next) {l N d c1 : Nat} {S : SuiteD} {E : List Entry} {w : DeskV} {J : (Nat → Prop) → Nat → Heap → Prop} {F : Nat → Prop} (X : EatsN J l hs w.evs) (D : IsDesk N hs d S E w)
    (hc : h0.get c1 = some (.row [.pointer (some ⟨d, 0, none⟩)] 0 true)) (hF : ¬ F c1) (hu : ∀ e ∈ w.evs, e.kind ≠ 13) (hn : w.evs.length ≤ 1000) (h1 : J F 0 h0) :
    CW CC 238 [.func (.yield l) ⟨[]⟩ ⟨[]⟩, .pointer (some ⟨c1, 0, none⟩)] h0 fun _ h' => (∃ F', J F' w.evs.length h') ∧ Fr hs h' := by
  have hk := f0.ok
  have rc : rowAt h0 c1 = some [.pointer (some ⟨d, 0, none⟩)] := by unfold rowAt; rw [hc]; rfl
  have nc := row_lt hk rc
  have rd : rowAt h0 d = some (S.desk w) := by unfold rowAt; rw [f0.get' hks D.row]; rfl
  have nd := get_lt hks D.row
  have nd0 := row_lt hk rd
  obtain ⟨pe, ce, eev⟩ := D.ent.value
  have ents := (D.ent.fr hks f0)
  have lse := SL.ls EntryV.len ents
  rw [eev] at lse
  refine CW_in Tryz.f238 (by kernel_rfl) (by kernel_rfl) rfl rfl ?_
  simp only [Tryz.f238]
  simp (maxDischargeDepth := 30) only [AA, ↓reduceIte, Nat.reduceLT, Nat.reduceEqDiff, Nat.reduceAdd, Nat.reduceMul, reduceCtorEq, Nat.reduceLeDiff, Int.reduceNe, Int.reduceEq, XH, F238_T89, hk, rc, rd, sd_ev, eev]
  have ent_at : ∀ {h' : Heap}, Fr h0 h' → ∀ {i : Nat} {u : EntryV}, w.evs[i]? = some u → ∃ b o sp row, pe = some ⟨b, o, sp⟩ ∧ rowAt h' b = some row ∧ take? row (o + i * 2) 2 = some u.cells  := by
    intro h' f i u hi
    rcases lse with ⟨e, _⟩ | ⟨b, o, sp, c, row, e, hr, hx⟩
    · rw [e] at hi; simp at hi
    · simp only [Value.slice.injEq, true_and] at e
      exact ⟨b, o, sp, row, e.1, f.row' hk hr, (hx i u hi).1⟩
  refine W_for [3, 4, 5, 13, 14, 15, 16, 17, 18, 19, 20, 21, 22, 23, 24, 25, 26, 27, 28, 29, 30] 13 w.evs.length (fun i g h' => ∃ vo, g 3 = vo ∧ SL h0.next h' vo ((upto i).flatMap ints) 1 i ∧ Fr h0 h')
    (by simp only [upd_at, ↓reduceIte]) ⟨_, by simp only [upd_at, Nat.reduceEqDiff, ↓reduceIte], SL.nil _ _ _, Fr.refl hk⟩ ?_ ?_
  · rintro i g h2 hi ag g13 ⟨vo, g3, qo, f2⟩ ih
    obtain ⟨u, gu⟩ : ∃ u, w.evs[i]? = some u := ⟨_, List.getElem?_eq_getElem hi⟩
    obtain ⟨b, o, sp, row, rfl, hr, ht⟩ := ent_at f2 gu
    obtain ⟨e, _, hnum⟩ := (LR.get' D.nums gu)
    obtain ⟨pu, cu, eu⟩ := hnum.2.1.len
    have e13 : (u.kind == 13) = false := by simpa using hu u (List.mem_of_getElem? gu)
    simp only [EntryV.cells, eu] at ht
    have f3 := ex_fr [.row [.int .i64 u.kind, .slice pu e.nums.length cu] 0 true] f2
    have n2 := f2.next
    obtain ⟨h4, e4, q4, f4, n4, _⟩ := append_one (ts := []) app_22 f3 (by rw [ex_next]; omega) (qo.fr f2.ok (ex_fr _ (Fr.refl f2.ok))) (v := .int .i64 i) rfl (by omega)
    simp only [AMH, XH, Nat.reduceAdd] at e4
    simp (maxDischargeDepth := 30) only [AA, ↓reduceIte, Nat.reduceLT, Nat.reduceEqDiff, Nat.reduceAdd, Nat.reduceMul, reduceCtorEq, Nat.reduceLeDiff, Int.reduceNe, Int.reduceEq, XH, F238_T89, ag.r, NE, g3, g13, f2.ok, lt_t hi, hi, hr, ht, e13, e4, i_next hi hn]
    refine ih _ _ (by simp only [AG, Nat.reduceEqDiff, ag]) (by simp only [upd_at, ↓reduceIte]) ⟨.slice (some ⟨h2.next + 1 + 1, 0, some 1⟩) (i + 1) (i + 1), by simp only [upd_at, Nat.reduceEqDiff, ↓reduceIte], ?_, f4⟩
    rw [upto_succ, List.flatMap_append]
    exact q4
  · rintro g h2 ag g13 ⟨vo, g3, qo, f2⟩
    obtain ⟨po, co, evo⟩ := qo.value
    have qo' := qo
    have lo := SL.ls (xs := upto w.evs.length) ints_len (by rw [upto_len]; exact qo)
    rw [evo] at lo
    simp (maxDischargeDepth := 30) only [AA, ↓reduceIte, Nat.reduceLT, Nat.reduceEqDiff, Nat.reduceAdd, Nat.reduceMul, reduceCtorEq, Nat.reduceLeDiff, Int.reduceNe, Int.reduceEq, XH, F238_T89, ag.r, NE, g3, evo, g13, f2.ok, lt_f]
    have bl : ∀ b, blkOf vo = some b → h0.next ≤ b ∧ b < h2.next := fun b hb => qo.blk_lt f2.ok hb
    refine W_for [7, 33, 34, 35, 36, 37, 38, 39, 40, 41, 42, 43, 44, 45, 46, 47, 48] 33 w.evs.length (fun i g' h' => Fr hs h' ∧ h2.next ≤ h'.next ∧ h'.get c1 = some (.row [.pointer (some ⟨d, 0, none⟩)] 0 true) ∧ SL h0.next h' vo ((upto w.evs.length).flatMap ints) 1 w.evs.length ∧ ∃ F', J F' i h' ∧ ¬ F' c1 ∧ ∀ b, F' b → b < h0.next ∨ h2.next ≤ b)
      (by simp only [upd_at, ↓reduceIte]) ⟨f0.trans f2, Nat.le_refl _, f2.get' hk hc, qo, F, X.stay _ _ _ _ h1 hk f2, hF, fun b hb => .inl (X.low _ _ _ h1 b hb).2⟩ ?_ ?_
    · rintro i g' h3 hi ag' g33 ⟨f3, n3, c3, q3, F', j3, nF, lF⟩ ih
      obtain ⟨u, gu⟩ : ∃ u, w.evs[i]? = some u := ⟨_, List.getElem?_eq_getElem hi⟩
      have rc3 : rowAt h3 c1 = some [.pointer (some ⟨d, 0, none⟩)] := by unfold rowAt; rw [c3]; rfl
      have rd3 : rowAt h3 d = some (S.desk w) := by unfold rowAt; rw [f3.get' hks D.row]; rfl
      have lo3 := SL.ls (xs := upto w.evs.length) ints_len (by rw [upto_len]; exact q3)
      rw [evo] at lo3
      have ent3 := (SL.ls EntryV.len D.ent)
      rw [eev] at ent3
      have ent3 := ent3.fr hks f3
      rcases lo3 with ⟨e, _⟩ | ⟨b, o, sp, c, row, e, hr, hx⟩
      · have := congrArg List.length e; rw [upto_len] at this; simp at this; rw [this] at hi; simp at hi
      simp only [Value.slice.injEq, upto_len] at e
      obtain ⟨rfl, _, rfl⟩ := e
      have k1 : row[o + i]? = some (.int .i64 i) := by simpa [ints] using (hx i _ (upto_at hi)).2 0 (by omega)
      rcases ent3 with ⟨e, _⟩ | ⟨be, oe, spe, ce', rowe, e, hre, hxe⟩
      · rw [e] at gu; simp at gu
      simp only [Value.slice.injEq, true_and] at e
      obtain ⟨rfl, rfl⟩ := e
      have k2 := (hxe i u gu).1
      obtain ⟨h4, e4, gr, F4, hF4, j4⟩ := X.round F' i h3 u f3.ok (by have := f2.next; omega) f3 j3 gu
      simp (maxDischargeDepth := 30) only [AA, ↓reduceIte, Nat.reduceLT, Nat.reduceEqDiff, Nat.reduceAdd, Nat.reduceMul, reduceCtorEq, Nat.reduceLeDiff, Int.reduceNe, Int.reduceEq, XH, F238_T89, ag'.r, ag.r, NE, g33, f3.ok, lt_t hi, hi, hr, k1, Nat.mul_one, rc3, rd3, sd_ev, eev, hre, k2, V_yield, e4, i_next hi hn]
      refine ih _ _ (by simp only [AG, Nat.reduceEqDiff, ag']) (by simp only [upd_at, ↓reduceIte]) ⟨gr.fr f3 fun b hb => (X.low _ _ _ j3 b hb).1, by have := gr.next; omega, gr.get' f3.ok nF c3, ?_, F4, j4, ?_, ?_⟩
      · refine q3.keep fun b hb => gr.get b ?_ ?_
        · have := bl b hb; omega
        · intro hb'; have := bl b hb; have := lF b hb'; omega
      · intro hc'; rcases hF4 _ hc' with h | h
        · exact nF h
        · have := f2.next; omega
      · intro b hb; rcases hF4 b hb with h | h
        · exact lF b h
        · exact .inr (by omega)
    · rintro g' h3 ag' g33 ⟨f3, n3, c3, q3, F', j3, nF, lF⟩
      simp (maxDischargeDepth := 30) only [AA, ↓reduceIte, Nat.reduceLT, Nat.reduceEqDiff, Nat.reduceAdd, Nat.reduceMul, reduceCtorEq, Nat.reduceLeDiff, Int.reduceNe, Int.reduceEq, XH, F238_T89, ag'.r, ag.r, NE, g33, f3.ok, lt_f, Post_end]
      exact ⟨⟨F', j3⟩, f3⟩
end Go.Am
