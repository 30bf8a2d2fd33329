/- Parts T98, T99, T100 of the abstract machine over this program, joined: what each part says stands at its head. -/
import Derived.Test.YtlflfbnnjlkkcaaGreatJT96
set_option linter.unusedSimpArgs false
set_option linter.unusedVariables false
/- The abstract machine over this program: what the law asks and enters. -/
namespace Go.Am
open Go Go.Proofs
theorem F15_T98 : type_of% (And.intro @bld_92 <| And.intro @fld_92_0 <| And.intro @fld_92_1 <| And.intro @size_92 <| And.intro @sp_92_0 <| And.intro @sp_92_1 @zero_92) := And.intro @bld_92 <| And.intro @fld_92_0 <| And.intro @fld_92_1 <| And.intro @size_92 <| And.intro @sp_92_0 <| And.intro @sp_92_1 @zero_92
set_option maxRecDepth 10000 in
theorem told_7 {N d k : Nat} {h : Heap} (hk : HOK h) (hp : 0 < h.next) {S : SuiteD} {l : List Int} {w : DeskV} (D : IsDesk N h d S (List.replicate k ⟨5, l⟩) w) (q : MixIn S l) (sm : S.Small) (ex1 : S.coats = exD.coats) (ex2 : S.bench = exD.bench) (ho : S.prices.offs.length ≤ 4) (hkn : k ≤ 24) {v u : Value} {nums : List Int} (hv : LS h v nums ints 1) (hnl : 1 ≤ nums.length ∧ nums.length ≤ 1) {out : List Int} (hout : out.length ≤ 1000) (hu : LS h u out ints 1)
    (hF : ∀ M h1 p sv u, HOK h1 → 0 < h1.next → IsState M h1 p (mixT S l k) sv → LS h1 u nums ints 1 → CW CC 173 [.pointer (some ⟨p, 0, none⟩), u] h1 fun r h' => (∃ u, r = .tuple ⟨[u, .int .i64 0]⟩ ∧ LS h' u out ints 1) ∧ Fr h1 h') :
    CW CC 15 [.pointer (some ⟨d, 0, none⟩), .int .i64 7, v, u] h fun r h' => r = .bool true ∧ Fr h h' := by
  obtain ⟨pv, cv, rfl⟩ := hv.len
  obtain ⟨pu, cu, rfl⟩ := hu.len
  refine CW_in Tryz.f15 (by kernel_rfl) (by kernel_rfl) rfl rfl ?_
  simp only [Tryz.f15]
  simp (maxDischargeDepth := 30) only [AMS, AMH, ↓reduceIte, Nat.reduceLT, Nat.reduceEqDiff, Nat.reduceAdd, Nat.reduceMul, reduceCtorEq, decide_true, decide_false, Nat.reduceLeDiff, Int.reduceNe, Int.reduceEq, ne_eq, not_false_eq_true, and_self, XH, F15_T98, hk]
  refine W_call (ask_7 hk hp D q sm ex1 ex2 ho hkn hv hnl hout hF) ?_
  rintro _ h1 ⟨⟨r, rfl, lr⟩, f1⟩
  simp (maxDischargeDepth := 30) only [AMS, AMH, ↓reduceIte, Nat.reduceLT, Nat.reduceEqDiff, Nat.reduceAdd, Nat.reduceMul, reduceCtorEq, decide_true, decide_false, Nat.reduceLeDiff, Int.reduceNe, Int.reduceEq, ne_eq, not_false_eq_true, and_self, XH, F15_T98, f1.ok, show ((0 : Int) == 0) = true from rfl]
  refine W_call (same_r _ _ out out h1 f1.ok lr (hu.fr hk f1) hout hout) ?_
  rintro _ _ ⟨rfl, rfl⟩
  simp (maxDischargeDepth := 30) only [AMS, AMH, ↓reduceIte, Nat.reduceLT, Nat.reduceEqDiff, Nat.reduceAdd, Nat.reduceMul, reduceCtorEq, decide_true, decide_false, Nat.reduceLeDiff, Int.reduceNe, Int.reduceEq, ne_eq, not_false_eq_true, and_self, XH, F15_T98, f1.ok]
  exact ⟨by simp, f1⟩
set_option maxRecDepth 10000 in
theorem told_8 {N d k : Nat} {h : Heap} (hk : HOK h) (hp : 0 < h.next) {S : SuiteD} {l : List Int} {w : DeskV} (D : IsDesk N h d S (List.replicate k ⟨5, l⟩) w) (q : MixIn S l) (sm : S.Small) (ex1 : S.coats = exD.coats) (ex2 : S.bench = exD.bench) (ho : S.prices.offs.length ≤ 4) (hkn : k ≤ 24) {v u : Value} {nums : List Int} (hv : LS h v nums ints 1) (hnl : 1 ≤ nums.length ∧ nums.length ≤ 4) {out : List Int} (hout : out.length ≤ 1000) (hu : LS h u out ints 1)
    (hF : ∀ M h1 p sv u, HOK h1 → 0 < h1.next → IsState M h1 p (mixT S l k) sv → LS h1 u nums ints 1 → CW CC 174 [.pointer (some ⟨p, 0, none⟩), u] h1 fun r h' => (∃ u, r = .tuple ⟨[u, .int .i64 0]⟩ ∧ LS h' u out ints 1) ∧ Fr h1 h') :
    CW CC 15 [.pointer (some ⟨d, 0, none⟩), .int .i64 8, v, u] h fun r h' => r = .bool true ∧ Fr h h' := by
  obtain ⟨pv, cv, rfl⟩ := hv.len
  obtain ⟨pu, cu, rfl⟩ := hu.len
  refine CW_in Tryz.f15 (by kernel_rfl) (by kernel_rfl) rfl rfl ?_
  simp only [Tryz.f15]
  simp (maxDischargeDepth := 30) only [AMS, AMH, ↓reduceIte, Nat.reduceLT, Nat.reduceEqDiff, Nat.reduceAdd, Nat.reduceMul, reduceCtorEq, decide_true, decide_false, Nat.reduceLeDiff, Int.reduceNe, Int.reduceEq, ne_eq, not_false_eq_true, and_self, XH, F15_T98, hk]
  refine W_call (ask_8 hk hp D q sm ex1 ex2 ho hkn hv hnl hout hF) ?_
  rintro _ h1 ⟨⟨r, rfl, lr⟩, f1⟩
  simp (maxDischargeDepth := 30) only [AMS, AMH, ↓reduceIte, Nat.reduceLT, Nat.reduceEqDiff, Nat.reduceAdd, Nat.reduceMul, reduceCtorEq, decide_true, decide_false, Nat.reduceLeDiff, Int.reduceNe, Int.reduceEq, ne_eq, not_false_eq_true, and_self, XH, F15_T98, f1.ok, show ((0 : Int) == 0) = true from rfl]
  refine W_call (same_r _ _ out out h1 f1.ok lr (hu.fr hk f1) hout hout) ?_
  rintro _ _ ⟨rfl, rfl⟩
  simp (maxDischargeDepth := 30) only [AMS, AMH, ↓reduceIte, Nat.reduceLT, Nat.reduceEqDiff, Nat.reduceAdd, Nat.reduceMul, reduceCtorEq, decide_true, decide_false, Nat.reduceLeDiff, Int.reduceNe, Int.reduceEq, ne_eq, not_false_eq_true, and_self, XH, F15_T98, f1.ok]
  exact ⟨by simp, f1⟩
set_option maxRecDepth 10000 in
theorem entered_mix {N d k : Nat} {h : Heap} (hk : HOK h) (hp : 0 < h.next) {S : SuiteD} {l : List Int} {w : DeskV} (D : IsDesk N h d S (List.replicate k ⟨5, l⟩) w) (q : MixIn S l) (sm : S.Small) (ex1 : S.coats = exD.coats) (ex2 : S.bench = exD.bench) (ho : S.prices.offs.length ≤ 4) (hkn : k < 24) {v : Value} (hv : LS h v l ints 1) (hm : MixOK S.tints (stockK S.stock l k) l) :
    CW CC 20 [.pointer (some ⟨d, 0, none⟩), .int .i64 5, v] h fun r h' => r = .bool true ∧ (∃ w', IsDesk N h' d S (List.replicate (k + 1) ⟨5, l⟩) w') ∧ Gr (fun b => N ≤ b) h h' := by
  obtain ⟨pv, cv, rfl⟩ := hv.len
  refine CW_in Tryz.f20 (by kernel_rfl) (by kernel_rfl) rfl rfl ?_
  simp only [Tryz.f20]
  simp (maxDischargeDepth := 30) only [AMS, AMH, ↓reduceIte, Nat.reduceLT, Nat.reduceEqDiff, Nat.reduceAdd, Nat.reduceMul, reduceCtorEq, decide_true, decide_false, Nat.reduceLeDiff, Int.reduceNe, Int.reduceEq, ne_eq, not_false_eq_true, and_self, XH, bld_80, fld_80_0, fld_80_1, size_80, sp_80_0, sp_80_1, zero_80, hk]
  refine W_call (enter_mix hk hp D q sm ex1 ex2 ho hkn hv) ?_
  rintro _ h1 ⟨hc, g1⟩
  rcases hc with ⟨_, rfl, hw⟩ | ⟨hn, _⟩
  · simp (maxDischargeDepth := 30) only [AMS, AMH, ↓reduceIte, Nat.reduceLT, Nat.reduceEqDiff, Nat.reduceAdd, Nat.reduceMul, reduceCtorEq, decide_true, decide_false, Nat.reduceLeDiff, Int.reduceNe, Int.reduceEq, ne_eq, not_false_eq_true, and_self, XH, bld_80, fld_80_0, fld_80_1, size_80, sp_80_0, sp_80_1, zero_80, g1.ok, show ((0 : Int) == 0) = true from rfl]
    exact ⟨trivial, hw, g1⟩
  · exact absurd hm hn
/-- how often a mixture can be made -/
def timesL (stock : Int) : List Int → Int → Int
  | [], t => t
  | n :: l, t => timesL stock l (if n > 0 then (if stock.tdiv n < t then stock.tdiv n else t) else t)
end Go.Am

/- The abstract machine over this program: Open; how often a mixture can be made. -/
namespace Go.Am
open Go Go.Proofs
theorem F8_T99 : type_of% (And.intro @fld_110_0 <| And.intro @fld_110_1 <| And.intro @fld_110_2 <| And.intro @ld_49 <| And.intro @size_110 <| And.intro @sp_110_0 <| And.intro @sp_110_1 @sp_110_2) := And.intro @fld_110_0 <| And.intro @fld_110_1 <| And.intro @fld_110_2 <| And.intro @ld_49 <| And.intro @size_110 <| And.intro @sp_110_0 <| And.intro @sp_110_1 @sp_110_2
set_option maxRecDepth 10000 in
theorem open_d {h : Heap} (hk : HOK h) (hp : 0 < h.next) {P Q : Nat → Prop} {u : SuiteV} {s : TintS} {l : List Int} (q : IsSuite P h u { exD with tints := s, stock := l }) (hs : LP Q h u.sk l ints 1) (x : ExIn h u) (G : s.Good) (hl : l.length = s.tins.length) (hb : l.any (fun n => !inP n 0 40) = false) (sm : SuiteD.Small { exD with tints := s, stock := l }) :
    CW CC 8 [.agg ⟨SuiteD.cells { exD with tints := s, stock := l } u⟩] h fun r h' => (∃ d w, r = .tuple ⟨[.pointer (some ⟨d, 0, none⟩), .int .i64 0]⟩ ∧ IsDesk h.next h' d { exD with tints := s, stock := l } [] w) ∧ Fr h h' := by
  refine CW_in Tryz.f8 (by kernel_rfl) (by kernel_rfl) rfl rfl ?_
  simp only [Tryz.f8]
  obtain ⟨S, hS⟩ : ∃ S : SuiteD, S = { exD with tints := s, stock := l } := ⟨_, rfl⟩
  have f1 := ex_fr [.row (SuiteD.cells { exD with tints := s, stock := l } u) 0 true] (Fr.refl hk)
  have g1 : rowAt (h.ex [.row (SuiteD.cells { exD with tints := s, stock := l } u) 0 true]) h.next = some (SuiteD.cells { exD with tints := s, stock := l } u) := rx_at0 rfl
  simp (maxDischargeDepth := 30) only [AMS, AMH, ↓reduceIte, Nat.reduceLT, Nat.reduceEqDiff, Nat.reduceAdd, Nat.reduceMul, reduceCtorEq, decide_true, decide_false, Nat.reduceLeDiff, Int.reduceNe, Int.reduceEq, ne_eq, not_false_eq_true, and_self, XH, SC, F8_T99, hk]
  refine W_call (isSuite_d f1.ok (q.fr hk f1) (hs.1.fr hk f1) (x.fr hk f1) G hl hb) ?_
  rintro _ h2 ⟨rfl, f2⟩
  have f02 := f1.trans f2
  have n2 := f02.next
  have g2 := f2.row' f1.ok g1
  simp (maxDischargeDepth := 30) only [AMS, AMH, ↓reduceIte, Nat.reduceLT, Nat.reduceEqDiff, Nat.reduceAdd, Nat.reduceMul, reduceCtorEq, decide_true, decide_false, Nat.reduceLeDiff, Int.reduceNe, Int.reduceEq, ne_eq, not_false_eq_true, and_self, XH, SC, F8_T99, f2.ok, g2]
  refine W_call (own_d f2.ok (by omega) (q.fr hk f02) (hs.fr hk f02) sm) ?_
  rintro _ h3 ⟨⟨u', rfl, iu, sk⟩, f3⟩
  have f03 := f02.trans f3
  have n3 := f3.next
  have bd : aBuild CC 110 [(0, .bool true), (1, .agg ⟨SuiteD.cells { exD with tints := s, stock := l } u'⟩)] = some (.agg ⟨SuiteD.desk { exD with tints := s, stock := l } ⟨u', .slice none 0 0, []⟩⟩) := by kernel_rfl
  simp (maxDischargeDepth := 30) only [AMS, AMH, ↓reduceIte, Nat.reduceLT, Nat.reduceEqDiff, Nat.reduceAdd, Nat.reduceMul, reduceCtorEq, decide_true, decide_false, Nat.reduceLeDiff, Int.reduceNe, Int.reduceEq, ne_eq, not_false_eq_true, and_self, XH, SC, F8_T99, f3.ok, bd]
  have f4 := ex_fr [.row (SuiteD.desk { exD with tints := s, stock := l } ⟨u', .slice none 0 0, []⟩) 0 true] (Fr.refl f3.ok)
  have g4 : (h3.ex [.row (SuiteD.desk { exD with tints := s, stock := l } ⟨u', .slice none 0 0, []⟩) 0 true]).get h3.next = some (.row (SuiteD.desk { exD with tints := s, stock := l } ⟨u', .slice none 0 0, []⟩) 0 true) := ex_at0 rfl
  refine ⟨⟨h3.next, ⟨u', .slice none 0 0, []⟩, rfl, g4, by omega, (iu.fr f3.ok f4).mono fun b hb => ⟨by omega, by omega, by simp [blkOf]⟩, LP.fr (sk.lp ints_len f3.ok fun b h1 h2 _ => ⟨by omega, by omega, by simp [blkOf]⟩) f3.ok f4, SL.nil _ _ _, ⟨rfl, fun i a b hi => by simp at hi⟩⟩, f03.trans f4⟩
/- HOW OFTEN -/
theorem tdiv_eq {a b : Int} (ha : 0 ≤ a) : a.tdiv b = a / b := Int.tdiv_eq_ediv_of_nonneg ha
theorem timesL_cons (st n : Int) (l : List Int) (t : Int) : timesL st (n :: l) t = timesL st l (if n > 0 then (if st.tdiv n < t then st.tdiv n else t) else t) := rfl
theorem timesL_le {st : Int} : ∀ (l : List Int) (t : Int), timesL st l t ≤ t
  | [], t => Int.le_refl _
  | n :: l, t => by
    refine Int.le_trans (timesL_le l _) ?_
    split
    · split <;> omega
    · omega
theorem timesL_all {st : Int} (hs : 0 ≤ st) : ∀ (l : List Int) (t : Int) (x : Int), x ∈ l → 0 < x → timesL st l t * x ≤ st
  | [], t, x, h, _ => by simp at h
  | n :: l, t, x, h, hx => by
    rcases List.mem_cons.1 h with rfl | h
    · have h1 : timesL st (x :: l) t ≤ st / x := by
        refine Int.le_trans (timesL_le l _) ?_
        rw [if_pos hx, tdiv_eq hs]; split <;> omega
      have h2 := Int.mul_le_mul_of_nonneg_right h1 (Int.le_of_lt hx)
      exact Int.le_trans h2 (Int.ediv_mul_le st (by omega))
    · exact timesL_all hs l _ x h hx
theorem timesL_ex {st : Int} (hs : 0 ≤ st) : ∀ (l : List Int) (t : Int), timesL st l t = t ∨ ∃ x ∈ l, 0 < x ∧ timesL st l t = st / x
  | [], t => .inl rfl
  | n :: l, t => by
    rcases timesL_ex hs l (if n > 0 then (if st.tdiv n < t then st.tdiv n else t) else t) with h | ⟨x, hx, h0, h⟩
    · by_cases hn : n > 0
      · by_cases ht : st.tdiv n < t
        · rw [if_pos hn, if_pos ht] at h
          exact .inr ⟨n, List.mem_cons_self, hn, by show timesL st l _ = _; rw [if_pos hn, if_pos ht, h, tdiv_eq hs]⟩
        · rw [if_pos hn, if_neg ht] at h
          exact .inl (by show timesL st l _ = _; rw [if_pos hn, if_neg ht]; exact h)
      · rw [if_neg hn] at h
        exact .inl (by show timesL st l _ = _; rw [if_neg hn]; exact h)
    · exact .inr ⟨x, List.mem_cons_of_mem _ hx, h0, h⟩
/-- after so many times, no more -/
theorem timesL_no {st : Int} (hs : 0 ≤ st ∧ st ≤ 20) {l : List Int} (hl : ∃ x ∈ l, 0 < x) : ∃ x ∈ l, 0 < x ∧ st < (timesL st l 21 + 1) * x := by
  rcases timesL_ex hs.1 l 21 with h | ⟨x, hx, h0, h⟩
  · obtain ⟨x, hx, h0⟩ := hl
    refine ⟨x, hx, h0, ?_⟩
    rw [h]; omega
  · refine ⟨x, hx, h0, ?_⟩
    rw [h]
    have := Int.lt_ediv_add_one_mul_self st h0
    exact this
theorem sum_pos {l : List Int} (h0 : ∀ x ∈ l, 0 ≤ x) (h : 1 ≤ sumI l) : ∃ x ∈ l, 0 < x := by
  induction l with
  | nil => simp [sumI] at h
  | cons a l ih =>
    rw [sumI_cons] at h
    by_cases ha : 0 < a
    · exact ⟨a, List.mem_cons_self, ha⟩
    · have := h0 a List.mem_cons_self
      obtain ⟨x, hx, h1⟩ := ih (fun x hx => h0 x (List.mem_cons_of_mem _ hx)) (by omega)
      exact ⟨x, List.mem_cons_of_mem _ hx, h1⟩
theorem known_d (h : Heap) : callF CC (Lim CC) 7 [] h = some (.ret (.bool true) h none) := spec_call (show CC.A 7 = some knownSpec by kernel_rfl) rfl
theorem suite_d (h : Heap) : callF CC (Lim CC) 18 [] h = some (.ret (.agg ⟨exD.cells (exV h.next)⟩) (h.ex (objsA true suiteR h.next)) none) := by
  have := closed_call (f := 18) (A := []) (R := suiteR) (args := []) (h := h) (by kernel_rfl) rfl
  rw [this]
  have e : resOf suiteR h.next = .agg ⟨cellsT suiteT h.next⟩ := rfl
  rw [e, ex_cells]
theorem suite_objs {h : Heap} : ExObj (h.ex (objsA true suiteR h.next)) h.next := fun j o hj => by
  have e : objsA true suiteR h.next = objsT true suiteT h.next := List.append_nil _
  rw [e]
  have := (List.getElem?_eq_some_iff.1 hj).1
  rw [ex_at rfl this]; exact hj
theorem ex_small {s : TintS} {l : List Int} (h1 : s.tins.length ≤ 1000) (h2 : l.length ≤ 1000) : SuiteD.Small { exD with tints := s, stock := l } := by
  constructor
  all_goals first | exact h1 | exact h2 | (intro w hw; simp [exD] at hw; rcases hw with rfl | rfl | rfl | rfl <;> simp) | (intro w hw; simp [exD] at hw; rcases hw with rfl | rfl | rfl <;> simp) | (intro w hw; simp [exD] at hw; rcases hw with rfl | rfl <;> simp) | (simp [exD])
end Go.Am

/- The abstract machine over this program: TopMixes is true on the machine. -/
namespace Go.Am
open Go Go.Proofs
theorem F4_T100 : type_of% (And.intro @bld_80 <| And.intro @bs_22 <| And.intro @fld_80_0 <| And.intro @fld_80_1 <| And.intro @fp_43_4 <| And.intro @fp_49_4 <| And.intro @fp_49_5 <| And.intro @ix_22 <| And.intro @ld_22 <| And.intro @ld_3 <| And.intro @ld_41 <| And.intro @ld_43 <| And.intro @ld_49 <| And.intro @len_22 <| And.intro @len_41 <| And.intro @part_3 <| And.intro @size_22 <| And.intro @size_3 <| And.intro @size_43 <| And.intro @size_49 <| And.intro @size_80 <| And.intro @sp_80_0 <| And.intro @sp_80_1 <| And.intro @und_22 <| And.intro @zero_22 <| And.intro @zero_43 @zero_80) := And.intro @bld_80 <| And.intro @bs_22 <| And.intro @fld_80_0 <| And.intro @fld_80_1 <| And.intro @fp_43_4 <| And.intro @fp_49_4 <| And.intro @fp_49_5 <| And.intro @ix_22 <| And.intro @ld_22 <| And.intro @ld_3 <| And.intro @ld_41 <| And.intro @ld_43 <| And.intro @ld_49 <| And.intro @len_22 <| And.intro @len_41 <| And.intro @part_3 <| And.intro @size_22 <| And.intro @size_3 <| And.intro @size_43 <| And.intro @size_49 <| And.intro @size_80 <| And.intro @sp_80_0 <| And.intro @sp_80_1 <| And.intro @und_22 <| And.intro @zero_22 <| And.intro @zero_43 @zero_80
set_option maxRecDepth 20000 in
set_option maxHeartbeats 8000000 in
theorem mixes_law {h : Heap} (hk : HOK h) (hp : 0 < h.next) {v w : Value} {s : TintS} {l : List Int} {st : Int} (hv : LS h v s.tins Tin.cells 6) (hw : LS h w l ints 1) :
    CW CC 4 [.agg ⟨s.cells v⟩, .int .i64 st, w] h fun r h' => r = .bool true ∧ Fr h h' := by
  obtain ⟨q, c, rfl, _⟩ := hv.open
  obtain ⟨q', c', rfl, hx⟩ := hw.open
  refine CW_in Tryz.f4 (by kernel_rfl) (by kernel_rfl) rfl rfl ?_
  simp only [Tryz.f4]
  obtain ⟨R, hR⟩ : ∃ R, R = s.cells (.slice q s.tins.length c) := ⟨_, rfl⟩
  have c12 : R[12]? = some (.slice q s.tins.length c) := by rw [hR]; rfl
  have t13 : take? R 0 13 = some R := by rw [hR]; rfl
  have a13 : allOne R = true := by rw [hR]; rfl
  have l13 : R.length = 13 := by rw [hR]; rfl
  have sheet := fun {h : Heap} (hk : HOK h) (hv : LS h (.slice q s.tins.length c) s.tins Tin.cells 6) (hl : s.tins.length ≤ 1000) => Sheet_7 hk hv hl
  have mixr := fun {h : Heap} (hk : HOK h) (hv : LS h (.slice q s.tins.length c) s.tins Tin.cells 6) (hw : LS h (.slice q' l.length c') l ints 1) (hl : l.length ≤ 1000) => Mix_7 hk hv hw hl
  have word := fun {h : Heap} (hk : HOK h) (h0 : 0 < h.next) (hv : LS h (.slice q s.tins.length c) s.tins Tin.cells 6) (hw : LS h (.slice q' l.length c') l ints 1) (G : s.Good) (M : MixGood s l) => Word_t hk h0 hv hw G M
  have put1 : ∀ k, write? (exD.cells (exV k)) 18 R = some (SuiteD.cells { exD with tints := s } { exV k with ti := .slice q s.tins.length c }) := fun k => by rw [hR]; rfl
  rw [← hR] at sheet mixr word
  rw [← hR]
  clear hR
  have f1 := ex_fr [.row R 0 true] (Fr.refl hk)
  have r1 : rowAt (h.ex [.row R 0 true]) h.next = some R := rx_at0 rfl
  have m1 : (h.ex [.row R 0 true]).next = h.next + 1 := by rw [ex_next]; rfl
  cases hb1 : decide ((s.tins.length : Int) > 6) with
  | true =>
    simp (maxDischargeDepth := 30) only [AMS, AMH, ↓reduceIte, Nat.reduceLT, Nat.reduceEqDiff, Nat.reduceAdd, Nat.reduceMul, reduceCtorEq, decide_true, decide_false, Nat.reduceLeDiff, Int.reduceNe, Int.reduceEq, ne_eq, not_false_eq_true, and_self, XH, F4_T100, hk, c12, hb1, known_d]
    exact ⟨trivial, f1⟩
  | false =>
  cases hb2 : decide ((l.length : Int) > 6) with
  | true =>
    simp (maxDischargeDepth := 30) only [AMS, AMH, ↓reduceIte, Nat.reduceLT, Nat.reduceEqDiff, Nat.reduceAdd, Nat.reduceMul, reduceCtorEq, decide_true, decide_false, Nat.reduceLeDiff, Int.reduceNe, Int.reduceEq, ne_eq, not_false_eq_true, and_self, XH, F4_T100, hk, c12, hb1, hb2, known_d]
    exact ⟨trivial, f1⟩
  | false =>
  have hb1' := of_decide_eq_false hb1
  have hb2' := of_decide_eq_false hb2
  simp (maxDischargeDepth := 30) only [AMS, AMH, ↓reduceIte, Nat.reduceLT, Nat.reduceEqDiff, Nat.reduceAdd, Nat.reduceMul, reduceCtorEq, decide_true, decide_false, Nat.reduceLeDiff, Int.reduceNe, Int.reduceEq, ne_eq, not_false_eq_true, and_self, XH, F4_T100, hk, c12, hb1, hb2, t13]
  refine W_call (sheet f1.ok (hv.fr hk f1) (by omega)) ?_
  rintro _ h2 ⟨⟨b3, rfl, hG⟩, f2⟩
  have f02 := f1.trans f2
  have r2 := f2.row' f1.ok r1
  cases b3 with
  | false =>
    simp (maxDischargeDepth := 30) only [AMS, AMH, ↓reduceIte, Nat.reduceLT, Nat.reduceEqDiff, Nat.reduceAdd, Nat.reduceMul, reduceCtorEq, decide_true, decide_false, Nat.reduceLeDiff, Int.reduceNe, Int.reduceEq, ne_eq, not_false_eq_true, and_self, XH, F4_T100, f2.ok, known_d]
    exact ⟨trivial, f02⟩
  | true =>
  have G := hG rfl
  simp (maxDischargeDepth := 30) only [AMS, AMH, ↓reduceIte, Nat.reduceLT, Nat.reduceEqDiff, Nat.reduceAdd, Nat.reduceMul, reduceCtorEq, decide_true, decide_false, Nat.reduceLeDiff, Int.reduceNe, Int.reduceEq, ne_eq, not_false_eq_true, and_self, XH, F4_T100, f2.ok, r2, t13]
  refine W_call (mixr f2.ok (hv.fr hk f02) (hw.fr hk f02) (by omega)) ?_
  rintro _ h3 ⟨⟨b4, rfl, hM⟩, f3⟩
  have f03 := f02.trans f3
  have r3 := f3.row' f2.ok r2
  cases b4 with
  | false =>
    simp (maxDischargeDepth := 30) only [AMS, AMH, ↓reduceIte, Nat.reduceLT, Nat.reduceEqDiff, Nat.reduceAdd, Nat.reduceMul, reduceCtorEq, decide_true, decide_false, Nat.reduceLeDiff, Int.reduceNe, Int.reduceEq, ne_eq, not_false_eq_true, and_self, XH, F4_T100, f3.ok, known_d]
    exact ⟨trivial, f03⟩
  | true =>
  have M := hM rfl
  cases hb5 : decide (st < 0) with
  | true =>
    simp (maxDischargeDepth := 30) only [AMS, AMH, ↓reduceIte, Nat.reduceLT, Nat.reduceEqDiff, Nat.reduceAdd, Nat.reduceMul, reduceCtorEq, decide_true, decide_false, Nat.reduceLeDiff, Int.reduceNe, Int.reduceEq, ne_eq, not_false_eq_true, and_self, XH, F4_T100, f3.ok, hb5, known_d]
    exact ⟨trivial, f03⟩
  | false =>
  cases hb6 : decide (st > 20) with
  | true =>
    simp (maxDischargeDepth := 30) only [AMS, AMH, ↓reduceIte, Nat.reduceLT, Nat.reduceEqDiff, Nat.reduceAdd, Nat.reduceMul, reduceCtorEq, decide_true, decide_false, Nat.reduceLeDiff, Int.reduceNe, Int.reduceEq, ne_eq, not_false_eq_true, and_self, XH, F4_T100, f3.ok, hb5, hb6, known_d]
    exact ⟨trivial, f03⟩
  | false =>
  have hst : 0 ≤ st ∧ st ≤ 20 := by have := of_decide_eq_false hb5; have := of_decide_eq_false hb6; omega
  simp (maxDischargeDepth := 30) only [AMS, AMH, ↓reduceIte, Nat.reduceLT, Nat.reduceEqDiff, Nat.reduceAdd, Nat.reduceMul, reduceCtorEq, decide_true, decide_false, Nat.reduceLeDiff, Int.reduceNe, Int.reduceEq, ne_eq, not_false_eq_true, and_self, XH, F4_T100, f3.ok, hb5, hb6, suite_d]
  have f4 := ex_fr (objsA true suiteR h3.next) (Fr.refl f3.ok)
  have x4 := suite_objs (h := h3)
  generalize (h3.ex (objsA true suiteR h3.next)) = h4 at f4 x4 ⊢
  have f04 := f03.trans f4
  have r4 := f4.row' f3.ok r3
  have n4 := f04.next
  have n4' := f4.next
  have p4 : h.next < h4.next := by have := f1.next; have := f2.next; have := f3.next; omega
  simp (maxDischargeDepth := 30) only [AMS, AMH, ↓reduceIte, Nat.reduceLT, Nat.reduceEqDiff, Nat.reduceAdd, Nat.reduceMul, reduceCtorEq, decide_true, decide_false, Nat.reduceLeDiff, Int.reduceNe, Int.reduceEq, ne_eq, not_false_eq_true, and_self, XH, SC, F4_T100, f4.ok, show CC.zero 49 = some (.agg ⟨suiteZ⟩) by kernel_rfl, show suiteZ.length = 35 from rfl, show allOne (exD.cells (exV h3.next)) = true from rfl, show ∀ l, write? suiteZ 0 (SuiteD.cells exD l) = some (SuiteD.cells exD l) from fun l => write_all _ _ rfl, r4, t13, p4, a13, l13, put1]
  have L2 : l.length ≤ 1000 := by omega
  have hxb : ∀ x ∈ l, 0 ≤ x ∧ x ≤ 8 := fun x hx => of_decide_eq_true (M.all x hx)
  have fA := ex_fr [.row (SuiteD.cells { exD with tints := s } { exV h3.next with ti := .slice q s.tins.length c, sk := .slice none 0 0 }) 0 true] (Fr.refl f4.ok)
  refine W_for [8, 9, 49, 50, 51, 52, 53, 54, 55, 56, 57, 58, 59, 60, 61, 62, 63, 64, 65, 66, 67, 68, 69, 70, 71, 72, 73] 9 l.length (fun i g h' => ∃ vo tm, h'.get h4.next = some (.row (SuiteD.cells { exD with tints := s } { exV h3.next with ti := .slice q s.tins.length c, sk := vo }) 0 true) ∧ SL h4.next h' vo ((List.replicate i st).flatMap ints) 1 i ∧ g 8 = .int .i64 tm ∧ timesL st (l.drop i) tm = timesL st l 21 ∧ (0 ≤ tm ∧ tm ≤ 21) ∧ Fr h4 h')
    (by simp only [upd_at, ↓reduceIte]) ⟨.slice none 0 0, 21, ex_at0 rfl, SL.nil _ _ _, by simp only [upd_at, Nat.reduceEqDiff, ↓reduceIte], rfl, by omega, fA⟩ ?_ ?_
  · rintro i g h5 hi ag g9 ⟨vo, tm, ga, qo, g8, ht, htm, f5⟩ ih
    have f05 := f04.trans f5
    have n5 := f5.next
    obtain ⟨x, gx⟩ : ∃ x, l[i]? = some x := ⟨_, List.getElem?_eq_getElem hi⟩
    have bx := hxb x (List.mem_of_getElem? gx)
    have la := get_lt f5.ok ga
    have ra : rowAt h5 h4.next = some (SuiteD.cells { exD with tints := s } { exV h3.next with ti := .slice q s.tins.length c, sk := vo }) := by unfold rowAt; rw [ga]; rfl
    obtain ⟨h6, e6, q6, f6, n6, g6⟩ := append_one (ts := []) app_22 f5 (by omega) qo (v := .int .i64 st) rfl (by omega)
    simp only [ex_one] at e6
    have tr : blkOf vo ≠ some h4.next := qo.other ga (by simp)
    have ga6 : h6.get h4.next = some (.row (SuiteD.cells { exD with tints := s } { exV h3.next with ti := .slice q s.tins.length c, sk := vo }) 0 true) := by rw [g6 _ la tr]; exact ga
    have ra6 : rowAt h6 h4.next = some (SuiteD.cells { exD with tints := s } { exV h3.next with ti := .slice q s.tins.length c, sk := vo }) := by unfold rowAt; rw [ga6]; rfl
    rcases hx with hx | ⟨b, o, sp, row, rfl, hr, hx⟩
    · rw [hx] at hi; simp at hi
    have k1 : row[o + i]? = some (.int .i64 x) := by simpa [ints] using (hx i x gx).2 0 (by omega)
    have f06 := f04.trans f6
    have hr6 := f06.row' hk hr
    have lb := row_lt hk hr
    have lb6 : b < h4.next := by have := f04.next; omega
    simp (maxDischargeDepth := 30) only [AMS, AMH, ↓reduceIte, Nat.reduceLT, Nat.reduceEqDiff, Nat.reduceAdd, Nat.reduceMul, reduceCtorEq, decide_true, decide_false, Nat.reduceLeDiff, Int.reduceNe, Int.reduceEq, ne_eq, not_false_eq_true, and_self, XH, SC, F4_T100, ag.r, NE, g9, g8, f5.ok, f6.ok, lt_t hi, hi, ra, la, e6, ra6, ga6, hr6, lb6, k1, Nat.mul_one]
    have dr : l.drop i = x :: l.drop (i + 1) := by rw [List.drop_eq_getElem_cons hi]; congr 1; exact (List.getElem?_eq_some_iff.1 gx).2
    have f7 := f6.set (i := h4.next) (Nat.le_refl _) (by omega) (.row (SuiteD.cells { exD with tints := s } { exV h3.next with ti := .slice q s.tins.length c, sk := .slice (some ⟨h5.next + 1, 0, some 1⟩) (i + 1) (i + 1) }) 0 true)
    have g7 : (h6.set h4.next (.row (SuiteD.cells { exD with tints := s } { exV h3.next with ti := .slice q s.tins.length c, sk := .slice (some ⟨h5.next + 1, 0, some 1⟩) (i + 1) (i + 1) }) 0 true)).get h4.next = some (.row (SuiteD.cells { exD with tints := s } { exV h3.next with ti := .slice q s.tins.length c, sk := .slice (some ⟨h5.next + 1, 0, some 1⟩) (i + 1) (i + 1) }) 0 true) := get_set_self' _ _ _
    have q7 : SL h4.next (h6.set h4.next (.row (SuiteD.cells { exD with tints := s } { exV h3.next with ti := .slice q s.tins.length c, sk := .slice (some ⟨h5.next + 1, 0, some 1⟩) (i + 1) (i + 1) }) 0 true)) (.slice (some ⟨h5.next + 1, 0, some 1⟩) (i + 1) (i + 1)) ((List.replicate (i + 1) st).flatMap ints) 1 (i + 1) := by
      rw [List.replicate_succ', List.flatMap_append]
      exact q6.keep fun b hb => Heap.get_set_ne _ _ (by simp [blkOf] at hb; omega)
    generalize (h6.set h4.next (.row (SuiteD.cells { exD with tints := s } { exV h3.next with ti := .slice q s.tins.length c, sk := .slice (some ⟨h5.next + 1, 0, some 1⟩) (i + 1) (i + 1) }) 0 true)) = h7 at f7 g7 q7 ⊢
    have hr7 := (f04.trans f7).row' hk hr
    cases hx0 : decide (x > 0) with
    | false =>
      have hx0' := of_decide_eq_false hx0
      simp (maxDischargeDepth := 30) only [AMS, AMH, ↓reduceIte, Nat.reduceLT, Nat.reduceEqDiff, Nat.reduceAdd, Nat.reduceMul, reduceCtorEq, decide_true, decide_false, Nat.reduceLeDiff, Int.reduceNe, Int.reduceEq, ne_eq, not_false_eq_true, and_self, XH, SC, F4_T100, ag.r, NE, g9, g8, f7.ok, i_next hi L2]
      refine ih _ _ (by simp only [AG, Nat.reduceEqDiff, ag]) (by simp only [upd_at, ↓reduceIte]) ⟨_, tm, g7, q7, by simp only [upd_at, Nat.reduceEqDiff, ↓reduceIte, g8], ?_, htm, f7⟩
      rw [← ht, dr]
      rw [timesL_cons, if_neg hx0']
    | true =>
      have hx0' := of_decide_eq_true hx0
      have hd0 : 0 ≤ st.tdiv x := by rw [tdiv_eq hst.1]; exact Int.ediv_nonneg hst.1 (by omega)
      have hd1 : st.tdiv x ≤ st := by rw [tdiv_eq hst.1]; exact Int.ediv_le_self x hst.1
      have wd : IntKind.i64.wrap (st.tdiv x) = st.tdiv x := wrap64 (by omega) (by omega)
      have xn : x ≠ 0 := by omega
      simp (maxDischargeDepth := 30) only [AMS, AMH, ↓reduceIte, Nat.reduceLT, Nat.reduceEqDiff, Nat.reduceAdd, Nat.reduceMul, reduceCtorEq, decide_true, decide_false, Nat.reduceLeDiff, Int.reduceNe, Int.reduceEq, ne_eq, not_false_eq_true, and_self, XH, SC, F4_T100, ag.r, NE, g9, g8, f7.ok, hi, hr7, k1, Nat.mul_one, xn, wd, min_two, i_next hi L2, List.map_cons, List.map_nil]
      refine ih _ _ (by simp only [AG, Nat.reduceEqDiff, ag]) (by simp only [upd_at, ↓reduceIte]) ⟨_, (if st.tdiv x < tm then st.tdiv x else tm), g7, q7, by simp only [upd_at, Nat.reduceEqDiff, ↓reduceIte, g8], ?_, ?_, f7⟩
      · rw [← ht, dr]
        rw [timesL_cons, if_pos hx0']
      · split <;> omega
  · rintro g h5 ag g9 ⟨vo, tm, ga, qo, g8, ht, htm, f5⟩
    have ht : tm = timesL st l 21 := by rw [← ht, List.drop_length]; rfl
    subst ht
    have f05 := f04.trans f5
    have n5 := f5.next
    have ra : rowAt h5 h4.next = some (SuiteD.cells { exD with tints := s } { exV h3.next with ti := .slice q s.tins.length c, sk := vo }) := by unfold rowAt; rw [ga]; rfl
    have r5 := f5.row' f4.ok r4
    have p5 : h.next < h5.next := by omega
    simp (maxDischargeDepth := 30) only [AMS, AMH, ↓reduceIte, Nat.reduceLT, Nat.reduceEqDiff, Nat.reduceAdd, Nat.reduceMul, reduceCtorEq, decide_true, decide_false, Nat.reduceLeDiff, Int.reduceNe, Int.reduceEq, ne_eq, not_false_eq_true, and_self, XH, SC, F4_T100, ag.r, NE, g9, g8, f5.ok, lt_f, r5, t13]
    refine W_call (word f5.ok (by omega) (hv.fr hk f05) (hw.fr hk f05) G M) ?_
    rintro _ h6 ⟨rfl, f6⟩
    have f06 := f05.trans f6
    have ra6 := f6.row' f5.ok ra
    have n6 := f6.next
    have x6 := ((ex_in x4).fr f4.ok (f5.trans f6))
    have lr : (List.replicate l.length st).length = s.tins.length := by rw [List.length_replicate]; exact M.len
    have su : IsSuite (fun _ => True) h6 { exV h3.next with ti := .slice q s.tins.length c, sk := vo } { exD with tints := s, stock := List.replicate l.length st } := by
      have e := ((ex_suite x4).fr f4.ok (f5.trans f6)).mono (P' := fun _ => True) fun _ _ => trivial
      exact ⟨e.w, e.pr, e.wd, e.dry, e.wk, e.ct, e.sp, e.bo, e.st, ⟨(hv.fr hk f06), fun _ _ _ => trivial⟩, e.of, e.bd, e.tr⟩
    have sk6 : LP (fun _ => True) h6 vo (List.replicate l.length st) ints 1 := ⟨(SL.ls (xs := List.replicate l.length st) ints_len (by rw [List.length_replicate]; exact qo)).fr f5.ok f6, fun _ _ _ => trivial⟩
    have all40 : (List.replicate l.length st).any (fun n => !inP n 0 40) = false := by
      rw [List.any_eq_false]
      intro x hx
      have := (List.mem_replicate.1 hx).2
      subst this
      simp [inP]; omega
    have hT := of_decide_eq_true G.tins
    simp (maxDischargeDepth := 30) only [AMS, AMH, ↓reduceIte, Nat.reduceLT, Nat.reduceEqDiff, Nat.reduceAdd, Nat.reduceMul, reduceCtorEq, decide_true, decide_false, Nat.reduceLeDiff, Int.reduceNe, Int.reduceEq, ne_eq, not_false_eq_true, and_self, XH, SC, F4_T100, ag.r, NE, g9, g8, f6.ok, ra6]
    refine W_call (open_d (l := List.replicate l.length st) f6.ok (by omega) su sk6 ⟨x6.front, x6.coats, x6.board, x6.bench, x6.prices⟩ G lr all40 (ex_small (by omega) (by rw [List.length_replicate]; omega))) ?_
    rintro _ h7 ⟨⟨d, dw, rfl, D⟩, f7⟩
    have f07 := f06.trans f7
    have n7 := f7.next
    have hle : h.next ≤ h6.next := f06.next
    obtain ⟨S, hS⟩ : ∃ S : SuiteD, S = { exD with tints := s, stock := List.replicate l.length st } := ⟨_, rfl⟩
    have sm : S.Small := by rw [hS]; exact ex_small (by omega) (by rw [List.length_replicate]; omega)
    have e1 : S.coats = exD.coats := by rw [hS]
    have e2 : S.bench = exD.bench := by rw [hS]
    have e3 : S.prices.offs.length ≤ 4 := by rw [hS]; simp [exD]
    have eS : S.tints = s := by rw [hS]
    have eK : S.stock = List.replicate l.length st := by rw [hS]
    have mi : MixIn S l := ⟨by rw [eS]; exact G, by rw [eS]; exact M, by rw [eK]; simp, fun x hx => by rw [eK] at hx; have := (List.mem_replicate.1 hx).2; omega⟩
    rw [← hS] at D
    have at_ : ∀ (j : Nat) x (k : Nat), l[j]? = some x → (stockK S.stock l k)[j]? = some (st - k * x) := fun j x k hj => stockK_at (by rw [eK, List.getElem?_replicate, if_pos (List.getElem?_eq_some_iff.1 hj).1]) hj k
    have pos : ∃ x ∈ l, 0 < x := sum_pos (fun x hx => (hxb x hx).1) (of_decide_eq_true M.sum).1
    have tl := timesL_le (st := st) l 21
    obtain ⟨T, hT⟩ : ∃ T : Nat, (T : Int) = if wordP s l = 1 then 0 else timesL st l 21 := by
      split
      · exact ⟨0, rfl⟩
      · exact ⟨(timesL st l 21).toNat, by omega⟩
    have hT21 : T ≤ 21 := by split at hT <;> omega
    have yes : ∀ k, k < T → MixOK S.tints (stockK S.stock l k) l := fun k hk => by
      rw [eS]
      split at hT
      · omega
      · rename_i hw1
        refine ⟨hw1, fun j x y hx hy => ?_⟩
        rw [at_ j x k hx] at hy
        simp at hy; subst hy
        have bx := hxb x (List.mem_of_getElem? hx)
        by_cases h0 : 0 < x
        · have h1 := timesL_all hst.1 l 21 x (List.mem_of_getElem? hx) h0
          have h2 : ((k : Int) + 1) * x ≤ timesL st l 21 * x := Int.mul_le_mul_of_nonneg_right (by omega) (by omega)
          rw [Int.add_mul] at h2; omega
        · have : x = 0 := by omega
          subst this; simp; exact hst.1
    have no : ¬ MixOK S.tints (stockK S.stock l T) l := by
      rw [eS]
      rintro ⟨h1, h2⟩
      rw [if_neg h1] at hT
      obtain ⟨x, hx, h0, h3⟩ := timesL_no hst pos
      obtain ⟨j, hj⟩ := List.mem_iff_getElem?.1 hx
      have := h2 j x _ hj (at_ j x T hj)
      rw [Int.add_mul] at h3
      rw [hT] at this
      omega
    have pe : ∀ (c : Bool) (a : Addr), aBin CC .eql 52 c (.pointer (some a)) (.pointer none) = some (.bool false) := fun c a => by cases c <;> kernel_rfl
    have z00 : ((0 : Int) != 0) = false := rfl
    cases hw1 : (wordP s l == 1)
    all_goals
      simp (maxDischargeDepth := 30) only [AMS, AMH, ↓reduceIte, Nat.reduceLT, Nat.reduceEqDiff, Nat.reduceAdd, Nat.reduceMul, reduceCtorEq, decide_true, decide_false, Nat.reduceLeDiff, Int.reduceNe, Int.reduceEq, ne_eq, not_false_eq_true, and_self, XH, F4_T100, ag.r, NE, g9, g8, f7.ok, z00, pe, hw1]
      refine W_for (8 :: [6, 14, 97, 98, 99, 100, 101, 102, 103, 104, 105]) 14 T (fun i g' h' => g' 8 = .int .i64 (T : Int) ∧ (∃ w', IsDesk h6.next h' d S (List.replicate i ⟨5, l⟩) w') ∧ h7.next ≤ h'.next ∧ Fr h h')
        (by simp only [upd_at, ↓reduceIte]) ⟨by
          simp only [upd_at, Nat.reduceEqDiff, ↓reduceIte, g8, hT]
          first
          | (rw [if_neg (by simpa using hw1)]; done)
          | (rw [if_pos (by simpa using hw1)]; done), ⟨_, D⟩, Nat.le_refl _, f07⟩ ?_ ?_
      · rintro i g' h8 hi ag' g14 ⟨g8', ⟨w', D'⟩, n8, f8⟩ ih
        simp (maxDischargeDepth := 30) only [AMS, AMH, ↓reduceIte, Nat.reduceLT, Nat.reduceEqDiff, Nat.reduceAdd, Nat.reduceMul, reduceCtorEq, decide_true, decide_false, Nat.reduceLeDiff, Int.reduceNe, Int.reduceEq, ne_eq, not_false_eq_true, and_self, XH, F4_T100, ag'.r, ag.r, NE, g14, g8', f8.ok, lt_t hi]
        refine W_call (entered_mix f8.ok (by omega) D' mi sm e1 e2 e3 (by omega) (hw.fr hk f8) (yes i hi)) ?_
        rintro _ h9 ⟨rfl, hw9, gr⟩
        have f9 : Fr h h9 := gr.fr f8 fun b hb => by omega
        simp (maxDischargeDepth := 30) only [AMS, AMH, ↓reduceIte, Nat.reduceLT, Nat.reduceEqDiff, Nat.reduceAdd, Nat.reduceMul, reduceCtorEq, decide_true, decide_false, Nat.reduceLeDiff, Int.reduceNe, Int.reduceEq, ne_eq, not_false_eq_true, and_self, XH, F4_T100, ag'.r, ag.r, NE, g14, g8', f9.ok, i_next hi (by omega)]
        exact ih _ _ (by simp only [AG, Nat.reduceEqDiff, ag']) (by simp only [upd_at, ↓reduceIte]) ⟨by simp only [upd_at, Nat.reduceEqDiff, ↓reduceIte, g8'], hw9, by have := gr.next; omega, f9⟩
      · rintro g' h8 ag' g14 ⟨g8', ⟨w', D'⟩, n8, f8⟩
        simp (maxDischargeDepth := 30) only [AMS, AMH, ↓reduceIte, Nat.reduceLT, Nat.reduceEqDiff, Nat.reduceAdd, Nat.reduceMul, reduceCtorEq, decide_true, decide_false, Nat.reduceLeDiff, Int.reduceNe, Int.reduceEq, ne_eq, not_false_eq_true, and_self, XH, F4_T100, ag'.r, ag.r, NE, g14, g8', f8.ok, lt_f]
        refine W_call (enter_mix f8.ok (by omega) D' mi sm e1 e2 e3 (by omega) (hw.fr hk f8)) ?_
        rintro _ h9 ⟨hc, gr⟩
        have f9 : Fr h h9 := gr.fr f8 fun b hb => by omega
        have n9 := gr.next
        rcases hc with ⟨hm, _⟩ | ⟨_, rfl, D9⟩
        · exact absurd hm no
        simp (maxDischargeDepth := 30) only [AMS, AMH, ↓reduceIte, Nat.reduceLT, Nat.reduceEqDiff, Nat.reduceAdd, Nat.reduceMul, reduceCtorEq, decide_true, decide_false, Nat.reduceLeDiff, Int.reduceNe, Int.reduceEq, ne_eq, not_false_eq_true, and_self, XH, F4_T100, ag'.r, ag.r, NE, g14, g8', f9.ok, show ((7 : Int) != 7) = false from rfl]
        refine W_for [6, 15, 111, 112, 113, 114, 115, 116, 117, 118, 119, 120, 121, 122, 123, 124, 125, 126, 127, 128, 129, 130] 15 l.length (fun i g'' h' => IsDesk h6.next h' d S (List.replicate T ⟨5, l⟩) w' ∧ h9.next ≤ h'.next ∧ Fr h h')
          (by simp only [upd_at, ↓reduceIte]) ⟨D9, Nat.le_refl _, f9⟩ ?_ ?_
        · rintro i g'' h10 hi ag'' g15 ⟨D10, n10, f10⟩ ih
          obtain ⟨x, gx⟩ : ∃ x, l[i]? = some x := ⟨_, List.getElem?_eq_getElem hi⟩
          have bx := hxb x (List.mem_of_getElem? gx)
          rcases hx with hx | ⟨b, o, sp, row, rfl, hr, hx⟩
          · rw [hx] at hi; simp at hi
          have k1 : row[o + i]? = some (.int .i64 x) := by simpa [ints] using (hx i x gx).2 0 (by omega)
          have hr10 := f10.row' hk hr
          have lb := row_lt hk hr
          have lb10 : b < h10.next := by have := f10.next; omega
          have m1' : 0 ≤ (T : Int) * x := Int.mul_nonneg (by omega) (by omega)
          have m2' : (T : Int) * x ≤ 21 * 8 := Int.mul_le_mul (by omega) (by omega) (by omega) (by omega)
          have w1 : IntKind.i64.wrap ((T : Int) * x) = (T : Int) * x := wrap64 (by omega) (by omega)
          have w2 : IntKind.i64.wrap (st - (T : Int) * x) = st - (T : Int) * x := wrap64 (by omega) (by omega)
          have fe := ex_fr [.row [.int .i64 i] 1 true, .row [.int .i64 (st - (T : Int) * x)] 1 true] (Fr.refl f10.ok)
          have le1 : LS (h10.ex [.row [.int .i64 i] 1 true, .row [.int .i64 (st - (T : Int) * x)] 1 true]) (.slice (some ⟨h10.next, 0, some 1⟩) 1 1) [(i : Int)] ints 1 := LS.of_row (xs := [(i : Int)]) ints_len (rx_at0 rfl)
          have le2 : LS (h10.ex [.row [.int .i64 i] 1 true, .row [.int .i64 (st - (T : Int) * x)] 1 true]) (.slice (some ⟨h10.next + 1, 0, some 1⟩) 1 1) [st - (T : Int) * x] ints 1 := LS.of_row (xs := [st - (T : Int) * x]) ints_len (rx_at (i := 1) rfl (by simp))
          simp (maxDischargeDepth := 30) only [AMS, AMH, ↓reduceIte, Nat.reduceLT, Nat.reduceEqDiff, Nat.reduceAdd, Nat.reduceMul, reduceCtorEq, decide_true, decide_false, Nat.reduceLeDiff, Int.reduceNe, Int.reduceEq, ne_eq, not_false_eq_true, and_self, XH, F4_T100, ag''.r, ag'.r, ag.r, NE, g15, g8', f10.ok, lt_t hi, hi, hr10, lb10, k1, Nat.mul_one, w1, w2]
          refine W_call (told_7 fe.ok (by rw [ex_next]; omega) (D10.fr f10.ok fe) mi sm e1 e2 e3 (by omega) le1 (by simp) (out := [st - (T : Int) * x]) (by simp) le2 fun M' h11 p sv u k11 p11 st11 lu => ?_) ?_
          · exact askLeft_d k11 st11 lu (at_ i x T gx) (by show (stockK S.stock l T).length ≤ 1000; rw [stockK_len, eK, List.length_replicate]; omega)
          rintro _ h11 ⟨rfl, f11⟩
          have f11' := fe.trans f11
          simp (maxDischargeDepth := 30) only [AMS, AMH, ↓reduceIte, Nat.reduceLT, Nat.reduceEqDiff, Nat.reduceAdd, Nat.reduceMul, reduceCtorEq, decide_true, decide_false, Nat.reduceLeDiff, Int.reduceNe, Int.reduceEq, ne_eq, not_false_eq_true, and_self, XH, F4_T100, ag''.r, ag'.r, ag.r, NE, g15, g8', f11.ok, i_next hi L2]
          exact ih _ _ (by simp only [AG, Nat.reduceEqDiff, ag'']) (by simp only [upd_at, ↓reduceIte]) ⟨D10.fr f10.ok f11', by have := f11'.next; omega, f10.trans f11'⟩
        · rintro g'' h10 ag'' g15 ⟨D10, n10, f10⟩
          have fe := ex_fr [.row [.int .i64 (wordP s l)] 1 true] (Fr.refl f10.ok)
          have le2 : LS (h10.ex [.row [.int .i64 (wordP s l)] 1 true]) (.slice (some ⟨h10.next, 0, some 1⟩) 1 1) [wordP s l] ints 1 := LS.of_row (xs := [wordP s l]) ints_len (rx_at0 rfl)
          simp (maxDischargeDepth := 30) only [AMS, AMH, ↓reduceIte, Nat.reduceLT, Nat.reduceEqDiff, Nat.reduceAdd, Nat.reduceMul, reduceCtorEq, decide_true, decide_false, Nat.reduceLeDiff, Int.reduceNe, Int.reduceEq, ne_eq, not_false_eq_true, and_self, XH, F4_T100, ag''.r, ag'.r, ag.r, NE, g15, g8', f10.ok, lt_f]
          refine W_call (told_8 fe.ok (by rw [ex_next]; omega) (D10.fr f10.ok fe) mi sm e1 e2 e3 (by omega) ((hw.fr hk f10).fr f10.ok fe) (by have := mi.n; omega) (out := [wordP s l]) (by simp) le2 fun M' h11 p sv u k11 p11 st11 lu => ?_) ?_
          · have := askWord_d k11 p11 st11 lu (show (mixT S l T).S.tints.Good from mi.G) mi.M
            rw [show (mixT S l T).S.tints = s from eS] at this
            exact this
          rintro _ h11 ⟨rfl, f11⟩
          simp (maxDischargeDepth := 30) only [AMS, AMH, ↓reduceIte, Nat.reduceLT, Nat.reduceEqDiff, Nat.reduceAdd, Nat.reduceMul, reduceCtorEq, decide_true, decide_false, Nat.reduceLeDiff, Int.reduceNe, Int.reduceEq, ne_eq, not_false_eq_true, and_self, XH, F4_T100, f11.ok, known_d]
          exact ⟨trivial, f10.trans (fe.trans f11)⟩
end Go.Am
