/- Parts T81, T82 of the abstract machine over this program, joined: what each part says stands at its head. -/
import Derived.Test.YtlflfbnnjlkkcaaGreatJX0
import Derived.Test.YtlflfbnnjlkkcaaGreatJT80
set_option linter.unusedSimpArgs false
set_option linter.unusedVariables false
/- The abstract machine over this program: after which years a mixture may match; whether it matches. -/
namespace Go.Am
open Go Go.Proofs
theorem F19_T81 : type_of% (And.intro @bld_151 <| And.intro @fld_151_0 <| And.intro @fld_151_1 <| And.intro @ld_43 <| And.intro @size_151 <| And.intro @sp_151_0 <| And.intro @sp_151_1 @zero_151) := And.intro @bld_151 <| And.intro @fld_151_0 <| And.intro @fld_151_1 <| And.intro @ld_43 <| And.intro @size_151 <| And.intro @sp_151_0 <| And.intro @sp_151_1 @zero_151
theorem F60_T81 : type_of% (And.intro @fp_151_0 <| And.intro @fp_43_3 <| And.intro @ld_151 <| And.intro @ld_3 @len_22) := And.intro @fp_151_0 <| And.intro @fp_43_3 <| And.intro @ld_151 <| And.intro @ld_3 @len_22
theorem F151_T81 : type_of% (And.intro @bld_344 <| And.intro @bs_22 <| And.intro @fld_344_0 <| And.intro @fld_344_1 <| And.intro @fp_151_0 <| And.intro @fp_25_0 <| And.intro @fp_25_1 <| And.intro @fp_43_2 <| And.intro @ix_22 <| And.intro @ld_151 <| And.intro @ld_3 <| And.intro @part_3 <| And.intro @size_22 <| And.intro @size_3 <| And.intro @size_341 <| And.intro @size_344 <| And.intro @sp_344_0 <| And.intro @sp_344_1 <| And.intro @und_22 <| And.intro @und_341 <| And.intro @zero_22 <| And.intro @zero_341 @zero_344) := And.intro @bld_344 <| And.intro @bs_22 <| And.intro @fld_344_0 <| And.intro @fld_344_1 <| And.intro @fp_151_0 <| And.intro @fp_25_0 <| And.intro @fp_25_1 <| And.intro @fp_43_2 <| And.intro @ix_22 <| And.intro @ld_151 <| And.intro @ld_3 <| And.intro @part_3 <| And.intro @size_22 <| And.intro @size_3 <| And.intro @size_341 <| And.intro @size_344 <| And.intro @sp_344_0 <| And.intro @sp_344_1 <| And.intro @und_22 <| And.intro @und_341 <| And.intro @zero_22 <| And.intro @zero_341 @zero_344
/-- may it match in a pigment, after so many years? -/
def mayQ (s : TintS) (l : List Int) (p : Nat) (y : Int) : Bool := mayN (sumI (prods (fun t => (t.pig p).lo) l s.tins)) (sumI (prods (fun t => (t.pig p).hi) l s.tins)) (sumI l) s.off (s.old p) y ((s.fade p).hi - (s.fade p).lo + 1).toNat (s.fade p).lo
theorem may_q {v w : Value} {s : TintS} {l : List Int} {p : Nat} {y : Int} {h : Heap} (hk : HOK h) (h0 : 0 < h.next) (hv : LS h v s.tins Tin.cells 6) (hw : LS h w l ints 1) (G : s.Good) (M : MixGood s l) (hy : 0 ≤ y ∧ y ≤ 20) (hp : p < 3) :
    CW CC 236 [.agg ⟨potC s v w⟩, .int .i64 p, .int .i64 y] h fun r h' => r = .bool (mayQ s l p y) ∧ Fr h h' := by
  rcases (by omega : p = 0 ∨ p = 1 ∨ p = 2) with rfl | rfl | rfl
  · exact may_0 hk h0 hv hw G M hy
  · exact may_1 hk h0 hv hw G M hy
  · exact may_2 hk h0 hv hw G M hy
def spK (x : Nat × Int) : Value := .agg ⟨[.int .i64 x.1, .int .i64 x.2]⟩
theorem sp_eq (x y : Nat × Int) : keyEq (spK x) (spK y) = some (decide (x = y)) := by
  obtain ⟨a, b⟩ := x
  obtain ⟨c, d⟩ := y
  show guardB (likeAll [.int .i64 (a : Int), .int .i64 b] [.int .i64 (c : Int), .int .i64 d]) (cellsEq _ _) = _
  rw [show likeAll [.int .i64 (a : Int), .int .i64 b] [.int .i64 (c : Int), .int .i64 d] = true from rfl, guardB_true]
  simp only [spK, cellsEq_int, cellsEq_nil]
  by_cases h1 : a = c
  · by_cases h2 : b = d
    · simp [h1, h2]
    · simp [h1, h2]
  · have : ¬ (a : Int) = c := by omega
    simp [h1, this]
/-- a map that holds the values of a list of keys -/
def KV {α : Type} (K V : α → Value) (es : List MapEntry) (l : List α) : Prop := es.map (fun e => (e.key, e.val)) = l.map fun x => (K x, V x)
section
variable {α : Type} [DecidableEq α] {K V : α → Value}
theorem KV.find (hK : ∀ x y, keyEq (K x) (K y) = some (decide (x = y))) : ∀ {es : List MapEntry} {l : List α} (i : Nat) (x : α), KV K V es l → (x ∈ l → ∃ j, aFind (K x) es i = some (some (j, V x))) ∧ (x ∉ l → aFind (K x) es i = some none)
  | [], [], i, x, _ => ⟨fun h => by simp at h, fun _ => rfl⟩
  | e :: es, [], i, x, h => by simp [KV] at h
  | [], y :: l, i, x, h => by simp [KV] at h
  | e :: es, y :: l, i, x, h => by
    simp only [KV, List.map_cons, List.cons.injEq, Prod.mk.injEq] at h
    have ih := KV.find hK (i + 1) x (show KV K V es l from h.2)
    rw [aFind_cons, h.1.1, hK]
    by_cases e1 : x = y
    · subst e1
      exact ⟨fun _ => ⟨i, by simp [h.1.2]⟩, fun hn => absurd List.mem_cons_self hn⟩
    · simp only [decide_eq_false e1, List.mem_cons, e1, false_or]
      exact ih
omit [DecidableEq α] in
theorem KV.snoc {es : List MapEntry} {l : List α} (h : KV K V es l) (x : α) (c : Nat) : KV K V (es ++ [{ key := K x, val := V x, born := c }]) (l ++ [x]) := by
  unfold KV at *; simp [h]
end
def potV (s : TintS) (l : List Int) (x : Nat × Int) : Value := .bool (mayQ s l x.1 x.2)
/-- keys from the first year on, before a pigment of a year -/
def Passed (lo y : Int) (p : Nat) (L : List (Nat × Int)) : Prop := ∀ q n, (q, n) ∈ L ↔ q < 3 ∧ lo ≤ n ∧ (n < y ∨ n = y ∧ q < p)
theorem Passed.step {lo y : Int} {p : Nat} {L : List (Nat × Int)} (h : Passed lo y p L) (hp : p < 3) (hy : lo ≤ y) : Passed lo y (p + 1) (L ++ [(p, y)]) := by
  intro q n
  rw [List.mem_append, h q n]
  simp only [List.mem_singleton, Prod.mk.injEq]
  omega
theorem Passed.year {lo y : Int} {L : List (Nat × Int)} (h : Passed lo y 3 L) : Passed lo (y + 1) 0 L := by
  intro q n; rw [h q n]; omega
/-- all years from one on, so many, after which it may match in all pigments -/
def yearsN (s : TintS) (l : List Int) : Nat → Int → List Int
  | 0, _ => []
  | n + 1, y => if (mayQ s l 0 y && (mayQ s l 1 y && mayQ s l 2 y)) = true then y :: yearsN s l n (y + 1) else yearsN s l n (y + 1)
theorem yearsN_s (s : TintS) (l : List Int) (n : Nat) (y : Int) : yearsN s l (n + 1) y = if (mayQ s l 0 y && (mayQ s l 1 y && mayQ s l 2 y)) = true then y :: yearsN s l n (y + 1) else yearsN s l n (y + 1) := rfl
def TintS.span (s : TintS) : Nat := (s.years.hi - s.years.lo + 1).toNat
def yearsP (s : TintS) (l : List Int) : List Int := yearsN s l s.span s.years.lo

set_option maxRecDepth 10000 in
set_option maxHeartbeats 2000000 in
theorem years_t {v w : Value} {s : TintS} {l : List Int} {h : Heap} (hk : HOK h) (h0 : 0 < h.next) (hv : LS h v s.tins Tin.cells 6) (hw : LS h w l ints 1) (G : s.Good) (M : MixGood s l) :
    CW CC 151 [.agg ⟨potC s v w⟩] h fun r h' => SL h.next h' r ((yearsP s l).flatMap ints) 1 (yearsP s l).length ∧ Fr h h' := by
  obtain ⟨q, c, rfl, _⟩ := hv.open
  obtain ⟨q', c', rfl, _⟩ := hw.open
  have may := fun {h : Heap} {p : Nat} {y : Int} (hk : HOK h) (h0 : 0 < h.next) (hv : LS h (.slice q s.tins.length c) s.tins Tin.cells 6) (hw : LS h (.slice q' l.length c') l ints 1) => @may_q _ _ s l p y h hk h0 hv hw G M
  have by' := span_b G.years
  obtain ⟨R, hR⟩ : ∃ R, R = potC s (.slice q s.tins.length c) (.slice q' l.length c') := ⟨_, rfl⟩
  have t1 : take? R 0 14 = some R := by rw [hR]; rfl
  have c9 : R[9]? = some (.int .i64 s.years.lo) := by rw [hR]; rfl
  have c10 : R[10]? = some (.int .i64 s.years.hi) := by rw [hR]; rfl
  rw [← hR] at may
  rw [← hR]
  clear hR
  refine CW_in Tryz.f151 (by kernel_rfl) (by kernel_rfl) rfl rfl ?_
  simp only [Tryz.f151]
  simp (maxDischargeDepth := 30) only [AMS, AMH, ↓reduceIte, Nat.reduceLT, Nat.reduceEqDiff, Nat.reduceAdd, Nat.reduceMul, reduceCtorEq, decide_true, decide_false, Nat.reduceLeDiff, Int.reduceNe, Int.reduceEq, ne_eq, not_false_eq_true, and_self, XH, F151_T81, hk, c9]
  have f1 := ex_fr [.row R 0 true, .map [] 0] (Fr.refl hk)
  have fits : ∀ x, keyFits CC 344 (spK x) = true := fun x => by kernel_rfl
  have NM : ∀ {n : Int}, IntKind.i64.wrap ((0 : Int) + 1) = 1 := rfl
  refine W_to [4, 5, 14, 15, 16, 17, 18, 19, 20, 21, 22, 23, 24, 25, 26, 27, 28, 29, 30, 31, 32, 33] 4 s.years.lo s.years.hi (fun y g h' => Fr h h' ∧ h.next + 2 ≤ h'.next ∧ h'.get h.next = some (.row R 0 true) ∧ ∃ es cl L, h'.get (h.next + 1) = some (.map es cl) ∧ KV spK (potV s l) es L ∧ Passed s.years.lo y 0 L) (by omega)
    (by simp only [upd_at, ↓reduceIte]) ⟨f1, by simp [ex_next], ex_at0 rfl, [], 0, [], by simp [ex_at], rfl, fun q n => by simp⟩ ?_ ?_
  · rintro y g h2 y1 y2 ag g4 ⟨f2, n2, hr, es, cl, L, m2, kv, ps⟩ ih
    have r2 : rowAt h2 h.next = some R := by unfold rowAt; rw [hr]; rfl
    have wy : IntKind.i64.wrap (y + 1) = y + 1 := wrap64 (by omega) (by omega)
    simp (maxDischargeDepth := 30) only [AMS, AMH, ↓reduceIte, Nat.reduceLT, Nat.reduceEqDiff, Nat.reduceAdd, Nat.reduceMul, reduceCtorEq, decide_true, decide_false, Nat.reduceLeDiff, Int.reduceNe, Int.reduceEq, ne_eq, not_false_eq_true, and_self, XH, F151_T81, ag.r, NE, g4, f2.ok, r2, c10, decide_eq_true y2]
    refine W_for [5, 22, 23, 24, 25, 26, 27, 28, 29, 30, 31, 32, 33] 22 3 (fun p g' h' => Fr h h' ∧ h.next + 2 ≤ h'.next ∧ h'.get h.next = some (.row R 0 true) ∧ ∃ es cl L, h'.get (h.next + 1) = some (.map es cl) ∧ KV spK (potV s l) es L ∧ Passed s.years.lo y p L)
      (by simp only [upd_at, ↓reduceIte]) ⟨f2, n2, hr, es, cl, L, m2, kv, ps⟩ ?_ ?_
    · rintro p g' h3 hp ag' g22 ⟨f3, n3, hr3, es, cl, L, m3, kv, ps⟩ ih'
      have r3 : rowAt h3 h.next = some R := by unfold rowAt; rw [hr3]; rfl
      have hd : decide ((p : Int) < 3) = true := decide_eq_true (by omega)
      simp (maxDischargeDepth := 30) only [AMS, AMH, ↓reduceIte, Nat.reduceLT, Nat.reduceEqDiff, Nat.reduceAdd, Nat.reduceMul, reduceCtorEq, decide_true, decide_false, Nat.reduceLeDiff, Int.reduceNe, Int.reduceEq, ne_eq, not_false_eq_true, and_self, XH, F151_T81, ag'.r, ag.r, NE, g4, g22, f3.ok, r3, t1, hd]
      refine W_call (may f3.ok (by omega) (hv.fr hk f3) (hw.fr hk f3) ⟨by omega, by omega⟩ hp) ?_
      rintro _ h4 ⟨rfl, f4⟩
      have r4 := f4.get' f3.ok hr3
      have m4 := f4.get' f3.ok m3
      have := f4.next
      have no : (p, y) ∉ L := fun hm => by have := (ps p y).1 hm; omega
      have e4 := update_of (C := CC) (v := .bool (mayQ s l p y)) und_341 (fits (p, y)) m4 ((kv.find sp_eq 0 (p, y)).2 no)
      simp only [spK] at e4
      simp (maxDischargeDepth := 30) only [AMS, AMH, ↓reduceIte, Nat.reduceLT, Nat.reduceEqDiff, Nat.reduceAdd, Nat.reduceMul, reduceCtorEq, decide_true, decide_false, Nat.reduceLeDiff, Int.reduceNe, Int.reduceEq, ne_eq, not_false_eq_true, and_self, XH, F151_T81, ag'.r, ag.r, NE, g4, g22, f4.ok, e4, i_next hp (by omega)]
      refine ih' _ _ (by simp only [AG, Nat.reduceEqDiff, ag']) (by simp only [upd_at, ↓reduceIte]) ⟨(f3.trans f4).set (by omega) (by omega) _, by simp; omega, by rw [Heap.get_set_ne _ _ (by omega)]; exact r4, _, _, L ++ [(p, y)], get_set_self' _ _ _, kv.snoc (p, y) _, ps.step hp y1⟩
    · rintro g' h3 ag' g22 ⟨f3, n3, r3, es, cl, L, m3, kv, ps⟩
      simp (maxDischargeDepth := 30) only [AMS, AMH, ↓reduceIte, Nat.reduceLT, Nat.reduceEqDiff, Nat.reduceAdd, Nat.reduceMul, reduceCtorEq, decide_true, decide_false, Nat.reduceLeDiff, Int.reduceNe, Int.reduceEq, ne_eq, not_false_eq_true, and_self, XH, F151_T81, ag'.r, ag.r, NE, g4, g22, f3.ok, wy, show decide (((3 : Nat) : Int) < 3) = false from rfl]
      exact ih _ _ (by simp only [AG, Nat.reduceEqDiff]; exact ag'.thru rfl (by simp only [AG, Nat.reduceEqDiff, ag])) (by simp only [upd_at, ↓reduceIte]) ⟨f3, n3, r3, es, cl, L, m3, kv, ps.year⟩
  · rintro g h2 ag g4 ⟨f2, n2, hr, es, cl, L, m2, kv, ps⟩
    have r2 : rowAt h2 h.next = some R := by unfold rowAt; rw [hr]; rfl
    simp (maxDischargeDepth := 30) only [AMS, AMH, ↓reduceIte, Nat.reduceLT, Nat.reduceEqDiff, Nat.reduceAdd, Nat.reduceMul, reduceCtorEq, decide_true, decide_false, Nat.reduceLeDiff, Int.reduceNe, Int.reduceEq, ne_eq, not_false_eq_true, and_self, XH, F151_T81, ag.r, NE, g4, f2.ok, r2, c9, c10, show decide (s.years.hi + 1 ≤ s.years.hi) = false from decide_eq_false (by omega)]
    refine W_to [6, 7, 8, 38, 39, 40, 41, 42, 43, 44, 45, 46, 47, 48, 49, 50, 51, 52, 53, 54, 55, 56, 57, 58, 59] 7 s.years.lo s.years.hi (fun y g' h' => Fr h h' ∧ h.next + 2 ≤ h'.next ∧ h'.get h.next = some (.row R 0 true) ∧ h'.get (h.next + 1) = some (.map es cl) ∧
      ∃ vo ys, g' 6 = vo ∧ SL h.next h' vo (ys.flatMap ints) 1 ys.length ∧ (ys.length : Int) ≤ y - s.years.lo ∧ ys ++ yearsN s l (s.years.hi - y + 1).toNat y = yearsP s l) (by omega)
      (by simp only [upd_at, ↓reduceIte]) ⟨f2, n2, hr, m2, .slice none 0 0, [], by simp only [upd_at, Nat.reduceEqDiff, ↓reduceIte], SL.nil _ _ _, by simp, rfl⟩ ?_ ?_
    · rintro y g' h3 y1 y2 ag' g7 ⟨f3, n3, hr3, m3, vo, ys, g6, qo, hy, hys⟩ ih
      have wy : IntKind.i64.wrap (y + 1) = y + 1 := wrap64 (by omega) (by omega)
      have r3 : rowAt h3 h.next = some R := by unfold rowAt; rw [hr3]; rfl
      have hs : (s.years.hi - y + 1).toNat = (s.years.hi - (y + 1) + 1).toNat + 1 := by omega
      simp (maxDischargeDepth := 30) only [AMS, AMH, ↓reduceIte, Nat.reduceLT, Nat.reduceEqDiff, Nat.reduceAdd, Nat.reduceMul, reduceCtorEq, decide_true, decide_false, Nat.reduceLeDiff, Int.reduceNe, Int.reduceEq, ne_eq, not_false_eq_true, and_self, XH, F151_T81, ag'.r, ag.r, NE, g7, f3.ok, r3, c10, decide_eq_true y2]
      refine W_for [8, 46, 47, 48, 49, 50, 51, 52, 53, 54, 55] 46 3 (fun p g'' h' => h' = h3 ∧ ∀ q, q < p → mayQ s l q y = true) (by simp only [upd_at, ↓reduceIte]) ⟨rfl, fun q hq => by omega⟩ ?_ ?_
      · rintro p g'' _ hp ag'' g46 ⟨rfl, hall⟩ ih'
        have hd : decide ((p : Int) < 3) = true := decide_eq_true (by omega)
        obtain ⟨j, hj⟩ := (kv.find sp_eq 0 (p, y)).1 ((ps p y).2 (by omega))
        have el := lookup_of (ok := false) und_341 (fits (p, y)) zero_4 m3
        rw [hj] at el
        simp only [spK, potV] at el
        cases hm : mayQ s l p y with
        | true =>
          rw [hm] at el
          simp (maxDischargeDepth := 30) only [AMS, AMH, ↓reduceIte, Nat.reduceLT, Nat.reduceEqDiff, Nat.reduceAdd, Nat.reduceMul, reduceCtorEq, decide_true, decide_false, Nat.reduceLeDiff, Int.reduceNe, Int.reduceEq, ne_eq, not_false_eq_true, and_self, XH, F151_T81, ag''.r, ag'.r, ag.r, NE, g7, g46, f3.ok, hd, el, found_v, i_next hp (by omega)]
          exact ih' _ _ (by simp only [AG, Nat.reduceEqDiff, ag'']) (by simp only [upd_at, ↓reduceIte]) ⟨rfl, fun q hq => by
            rcases Nat.lt_or_ge q p with w | w
            · exact hall q w
            · have : q = p := by omega
              subst this; exact hm⟩
        | false =>
          rw [hm] at el
          simp (maxDischargeDepth := 30) only [AMS, AMH, ↓reduceIte, Nat.reduceLT, Nat.reduceEqDiff, Nat.reduceAdd, Nat.reduceMul, reduceCtorEq, decide_true, decide_false, Nat.reduceLeDiff, Int.reduceNe, Int.reduceEq, ne_eq, not_false_eq_true, and_self, XH, F151_T81, ag''.r, ag'.r, ag.r, NE, g7, g46, f3.ok, hd, el, found_v, wy]
          refine ih _ _ (by simp only [AG, Nat.reduceEqDiff]; exact ag''.thru rfl (by simp only [AG, Nat.reduceEqDiff, ag'])) (by simp only [upd_at, ↓reduceIte]) ⟨f3, n3, hr3, m3, vo, ys, ?_, qo, by omega, ?_⟩
          · simp only [upd_at, Nat.reduceEqDiff, ↓reduceIte, ag''.r, NE, not_false_eq_true, g6]
          · rw [← hys, hs]
            rw [yearsN_s, if_neg]
            intro hh
            simp only [Bool.and_eq_true] at hh
            rcases (by omega : p = 0 ∨ p = 1 ∨ p = 2) with rfl | rfl | rfl <;> (rw [hm] at hh; simp at hh)
      · rintro g'' h3 ag'' g46 ⟨rfl, hall⟩
        obtain ⟨h4, e4, q4, f4, n4, gt4⟩ := append_one (ts := []) app_22 f3 (by omega) qo (v := .int .i64 y) rfl (by omega)
        have tr : blkOf vo ≠ some h.next := qo.other hr3 (by simp)
        have tm : blkOf vo ≠ some (h.next + 1) := qo.other m3 (by simp)
        simp only [ex_one] at e4
        simp (maxDischargeDepth := 30) only [AMS, AMH, ↓reduceIte, Nat.reduceLT, Nat.reduceEqDiff, Nat.reduceAdd, Nat.reduceMul, reduceCtorEq, decide_true, decide_false, Nat.reduceLeDiff, Int.reduceNe, Int.reduceEq, ne_eq, not_false_eq_true, and_self, XH, F151_T81, ag''.r, ag'.r, ag.r, NE, g7, g6, g46, f3.ok, wy, show decide (((3 : Nat) : Int) < 3) = false from rfl, e4]
        refine ih _ _ (by simp only [AG, Nat.reduceEqDiff]; exact ag''.thru rfl (by simp only [AG, Nat.reduceEqDiff, ag'])) (by simp only [upd_at, ↓reduceIte]) ⟨f4, by omega, by rw [gt4 _ (by omega) tr]; exact hr3, by rw [gt4 _ (by omega) tm]; exact m3, .slice (some ⟨h3.next + 1, 0, some 1⟩) (ys.length + 1) (ys.length + 1), ys ++ [y], ?_, ?_, by simp; omega, ?_⟩
        · simp only [upd_at, Nat.reduceEqDiff, ↓reduceIte]
        · simpa [ints] using q4
        · rw [← hys, hs]
          rw [List.append_assoc]
          congr 1
          rw [yearsN_s, if_pos (by rw [hall 0 (by omega), hall 1 (by omega), hall 2 (by omega)]; rfl)]
          rfl
    · rintro g' h3 ag' g7 ⟨f3, n3, hr3, m3, vo, ys, g6, qo, hy, hys⟩
      have r3 : rowAt h3 h.next = some R := by unfold rowAt; rw [hr3]; rfl
      have e : ys = yearsP s l := by rw [← hys, show (s.years.hi - (s.years.hi + 1) + 1).toNat = 0 by omega]; simp [yearsN]
      subst e
      simp (maxDischargeDepth := 30) only [AMS, AMH, ↓reduceIte, Nat.reduceLT, Nat.reduceEqDiff, Nat.reduceAdd, Nat.reduceMul, reduceCtorEq, decide_true, decide_false, Nat.reduceLeDiff, Int.reduceNe, Int.reduceEq, ne_eq, not_false_eq_true, and_self, XH, F151_T81, ag'.r, ag.r, NE, g7, g6, f3.ok, r3, c10, show decide (s.years.hi + 1 ≤ s.years.hi) = false from decide_eq_false (by omega)]
      exact ⟨qo, f3⟩
/-- does it match: 3 surely, 2 may be, 1 never -/
def wordP (s : TintS) (l : List Int) : Int := if offP s l ≤ s.off then 3 else if yearsP s l = [] then 1 else 2
set_option maxRecDepth 10000 in
set_option maxHeartbeats 2000000 in
theorem word_t {v w : Value} {s : TintS} {l : List Int} {h : Heap} (hk : HOK h) (h0 : 0 < h.next) (hv : LS h v s.tins Tin.cells 6) (hw : LS h w l ints 1) (G : s.Good) (M : MixGood s l) :
    CW CC 60 [.agg ⟨potC s v w⟩] h fun r h' => r = .int .i64 (wordP s l) ∧ Fr h h' := by
  obtain ⟨q, c, rfl, _⟩ := hv.open
  obtain ⟨q', c', rfl, _⟩ := hw.open
  have off := fun {h : Heap} (hk : HOK h) (h0 : 0 < h.next) (hv : LS h (.slice q s.tins.length c) s.tins Tin.cells 6) (hw : LS h (.slice q' l.length c') l ints 1) => off_t hk h0 hv hw G M
  have years := fun {h : Heap} (hk : HOK h) (h0 : 0 < h.next) (hv : LS h (.slice q s.tins.length c) s.tins Tin.cells 6) (hw : LS h (.slice q' l.length c') l ints 1) => years_t hk h0 hv hw G M
  obtain ⟨R, hR⟩ : ∃ R, R = potC s (.slice q s.tins.length c) (.slice q' l.length c') := ⟨_, rfl⟩
  have t1 : take? R 0 14 = some R := by rw [hR]; rfl
  have c11 : R[11]? = some (.int .i64 s.off) := by rw [hR]; rfl
  have sf : R.all selfC = true := by rw [hR]; rfl
  rw [← hR] at off years
  rw [← hR]
  clear hR
  refine CW_in Tryz.f60 (by kernel_rfl) (by kernel_rfl) rfl rfl ?_
  simp only [Tryz.f60]
  have f1 := ex_fr [.row R 0 true] (Fr.refl hk)
  have r1 : rowAt (h.ex [.row R 0 true]) h.next = some R := rx_at0 rfl
  simp (maxDischargeDepth := 30) only [AMS, AMH, ↓reduceIte, Nat.reduceLT, Nat.reduceEqDiff, Nat.reduceAdd, Nat.reduceMul, reduceCtorEq, decide_true, decide_false, Nat.reduceLeDiff, Int.reduceNe, Int.reduceEq, ne_eq, not_false_eq_true, and_self, XH, F60_T81, hk]
  refine W_draw [(true, 0), (true, 2), (true, 3), (true, 4), (true, 1), (false, 4), (true, 5), (true, 6)] (by kernel_rfl) ?_
  simp (maxDischargeDepth := 30) only [AMS, AMH, ↓reduceIte, Nat.reduceLT, Nat.reduceEqDiff, Nat.reduceAdd, Nat.reduceMul, reduceCtorEq, decide_true, decide_false, Nat.reduceLeDiff, Int.reduceNe, Int.reduceEq, ne_eq, not_false_eq_true, and_self, AMR, XH, F60_T81, hk, t1, c11, sf]
  refine W_callP (off f1.ok (by simp [ex_next]) (hv.fr hk f1) (hw.fr hk f1)) ?_
  rintro _ h2 ⟨rfl, f2⟩
  have r2 := f2.row' f1.ok r1
  have f02 := f1.trans f2
  cases hd : decide (offP s l ≤ s.off) with
  | true =>
    simp (maxDischargeDepth := 30) only [AMS, AMH, ↓reduceIte, Nat.reduceLT, Nat.reduceEqDiff, Nat.reduceAdd, Nat.reduceMul, reduceCtorEq, decide_true, decide_false, Nat.reduceLeDiff, Int.reduceNe, Int.reduceEq, ne_eq, not_false_eq_true, and_self, AMR, XH, F60_T81, f2.ok, r2, t1, c11, sf, hd]
    exact ⟨by rw [wordP, if_pos (of_decide_eq_true hd)], f02⟩
  | false =>
    simp (maxDischargeDepth := 30) only [AMS, AMH, ↓reduceIte, Nat.reduceLT, Nat.reduceEqDiff, Nat.reduceAdd, Nat.reduceMul, reduceCtorEq, decide_true, decide_false, Nat.reduceLeDiff, Int.reduceNe, Int.reduceEq, ne_eq, not_false_eq_true, and_self, AMR, XH, F60_T81, f2.ok, r2, t1, c11, sf, hd]
    refine W_call (years f2.ok (by have := f02.next; omega) (hv.fr hk f02) (hw.fr hk f02)) ?_
    rintro _ h3 ⟨q3, f3⟩
    obtain ⟨p, c, rfl⟩ := q3.value
    have e2 := of_decide_eq_false hd
    cases hy : decide (((yearsP s l).length : Int) > 0) with
    | false =>
      simp (maxDischargeDepth := 30) only [AMS, AMH, ↓reduceIte, Nat.reduceLT, Nat.reduceEqDiff, Nat.reduceAdd, Nat.reduceMul, reduceCtorEq, decide_true, decide_false, Nat.reduceLeDiff, Int.reduceNe, Int.reduceEq, ne_eq, not_false_eq_true, and_self, AMR, XH, F60_T81, f3.ok, hy]
      have := of_decide_eq_false hy
      exact ⟨by rw [wordP, if_neg e2, if_pos (List.eq_nil_of_length_eq_zero (by omega))], f02.trans f3⟩
    | true =>
      simp (maxDischargeDepth := 30) only [AMS, AMH, ↓reduceIte, Nat.reduceLT, Nat.reduceEqDiff, Nat.reduceAdd, Nat.reduceMul, reduceCtorEq, decide_true, decide_false, Nat.reduceLeDiff, Int.reduceNe, Int.reduceEq, ne_eq, not_false_eq_true, and_self, AMR, XH, F60_T81, f3.ok, hy]
      have := of_decide_eq_true hy
      exact ⟨by rw [wordP, if_neg e2, if_neg (by intro e; rw [e] at this; simp at this)], f02.trans f3⟩
set_option maxRecDepth 10000 in
theorem Word_t {v w : Value} {s : TintS} {l : List Int} {h : Heap} (hk : HOK h) (h0 : 0 < h.next) (hv : LS h v s.tins Tin.cells 6) (hw : LS h w l ints 1) (G : s.Good) (M : MixGood s l) :
    CW CC 19 [.agg ⟨s.cells v⟩, w] h fun r h' => r = .tuple ⟨[.int .i64 (wordP s l), .int .i64 0]⟩ ∧ Fr h h' := by
  have hl : l.length ≤ 1000 := by rw [M.len]; have := of_decide_eq_true G.tins; omega
  obtain ⟨q, c, rfl, _⟩ := hv.open
  obtain ⟨q', c', rfl, _⟩ := hw.open
  refine CW_in Tryz.f19 (by kernel_rfl) (by kernel_rfl) rfl rfl ?_
  simp only [Tryz.f19]
  have f1 := ex_fr [.row (s.cells (.slice q s.tins.length c)) 0 true] (Fr.refl hk)
  have r1 : rowAt (h.ex [.row (s.cells (.slice q s.tins.length c)) 0 true]) h.next = some (s.cells (.slice q s.tins.length c)) := rx_at0 rfl
  have t1 : take? (s.cells (.slice q s.tins.length c)) 0 13 = some (s.cells (.slice q s.tins.length c)) := rfl
  simp (maxDischargeDepth := 30) only [AMS, AMH, ↓reduceIte, Nat.reduceLT, Nat.reduceEqDiff, Nat.reduceAdd, Nat.reduceMul, reduceCtorEq, decide_true, decide_false, Nat.reduceLeDiff, Int.reduceNe, Int.reduceEq, ne_eq, not_false_eq_true, and_self, XH, F19_T81, hk, t1]
  refine W_call (isSheet_t f1.ok (hv.fr hk f1) G) ?_
  rintro _ h2 ⟨rfl, f2⟩
  have f02 := f1.trans f2
  have r2 := f2.row' f1.ok r1
  simp (maxDischargeDepth := 30) only [AMS, AMH, ↓reduceIte, Nat.reduceLT, Nat.reduceEqDiff, Nat.reduceAdd, Nat.reduceMul, reduceCtorEq, decide_true, decide_false, Nat.reduceLeDiff, Int.reduceNe, Int.reduceEq, ne_eq, not_false_eq_true, and_self, XH, F19_T81, f2.ok, r2, t1]
  refine W_call (isMix_t f2.ok (hv.fr hk f02) (hw.fr hk f02) hl M) ?_
  rintro _ h3 ⟨rfl, f3⟩
  have f03 := f02.trans f3
  have r3 := f3.row' f2.ok r2
  simp (maxDischargeDepth := 30) only [AMS, AMH, ↓reduceIte, Nat.reduceLT, Nat.reduceEqDiff, Nat.reduceAdd, Nat.reduceMul, reduceCtorEq, decide_true, decide_false, Nat.reduceLeDiff, Int.reduceNe, Int.reduceEq, ne_eq, not_false_eq_true, and_self, XH, F19_T81, f3.ok, r3, t1, TintS.cells]
  refine W_call (word_t f3.ok (by have := f03.next; omega) (hv.fr hk f03) (hw.fr hk f03) G M) ?_
  rintro _ h4 ⟨rfl, f4⟩
  simp (maxDischargeDepth := 30) only [AMS, AMH, ↓reduceIte, Nat.reduceLT, Nat.reduceEqDiff, Nat.reduceAdd, Nat.reduceMul, reduceCtorEq, decide_true, decide_false, Nat.reduceLeDiff, Int.reduceNe, Int.reduceEq, ne_eq, not_false_eq_true, and_self, XH, F19_T81, f4.ok]
  exact ⟨by first | rfl | trivial, f03.trans f4⟩
end Go.Am

/- The abstract machine over this program: slices.Clone. -/
namespace Go.Am
open Go Go.Proofs
theorem allOne_app (a b : List Value) (h1 : allOne a = true) (h2 : allOne b = true) : allOne (a ++ b) = true := by
  induction a with
  | nil => exact h2
  | cons x a ih =>
    rw [allOne_cons] at h1
    rw [List.cons_append, allOne_cons]
    cases hx : oneC x with
    | false => rw [hx] at h1; simp at h1
    | true => rw [hx] at h1; exact ih h1
theorem allOne_flat {α : Type} {f : α → List Value} : ∀ {xs : List α}, (∀ x, x ∈ xs → allOne (f x) = true) → allOne (xs.flatMap f) = true
  | [], _ => rfl
  | x :: xs, h => by
    rw [List.flatMap_cons]
    exact allOne_app _ _ (h x List.mem_cons_self) (allOne_flat fun y hy => h y (List.mem_cons_of_mem _ hy))
theorem append_zero {C : Ctx} {t u : TypeId} {ts : List TypeId} {s : Nat} (ht : AppT C t u s) (a : Addr) (n c : Nat) (p : Option Addr) (d : Nat) (h : Heap) : aAppend C (t :: u :: ts) (.slice (some a) n c) (.slice p 0 d) h = some (.slice (some a) n c, h) := by
  obtain ⟨e, i, du, e1, e2, e3, e4, e5, e6, e7⟩ := ht.ex
  unfold aAppend
  simp only [e1, obind_some, sliceElem, e2, e5, e6, e7, Bool.and_self, guardB_true, sliceOf, lenOfV, appendAt, nilOk]
/-- what Clone does with a list that is nil, and with one that is not -/
structure CloneT (f t u s : Nat) : Prop where
  nil : ∀ n c h, HOK h → CW CC f [.slice none n c] h fun r h' => r = .slice none 0 0 ∧ h' = h
  app : ∀ a n c h Q, HOK h → (∃ v h', aAppend CC [t, u] (.slice (some ⟨h.next, 0, some s⟩) 0 0) (.slice (some a) n c) (h.ex [.row [] s true]) = some (v, h') ∧ HOK h' ∧ Q v h') → CW CC f [.slice (some a) n c] h Q
  ap : AppT CC t u s
theorem CloneT.clone {α : Type} {f t u s : Nat} (T : CloneT f t u s) {g : α → List Value} (hg : ∀ x, (g x).length = s) {h : Heap} (hk : HOK h) (hp : 0 < h.next) {v : Value} {xs : List α} (hv : LS h v xs g s) (ha : ∀ x ∈ xs, allOne (g x) = true) (hn : xs.length ≤ 100000) :
    CW CC f [v] h fun r h' => SL h.next h' r (xs.flatMap g) s xs.length ∧ (v = .slice none 0 0 → r = .slice none 0 0) ∧ Fr h h' := by
  have f1 := ex_fr [.row [] s true] (Fr.refl hk)
  have q1 : SL h.next (h.ex [.row [] s true]) (sliceTo s 0 0 h.next) [] s 0 := SL.new (Nat.le_refl _) hp [] s 0 (by simp)
  cases xs with
  | nil =>
    obtain ⟨p, c, rfl⟩ := hv.len
    cases p with
    | none =>
      obtain ⟨r, h', e, rfl, rfl⟩ := T.nil 0 c h hk
      exact ⟨_, _, e, SL.nil _ _ _, fun _ => rfl, Fr.refl hk⟩
    | some a => exact T.app _ _ _ _ _ hk ⟨_, _, append_zero T.ap _ _ _ _ _ _, f1.ok, q1, fun e => (by simp at e), f1⟩
  | cons y ys =>
    rcases hv with ⟨e, _⟩ | ⟨b, o, sp, c, row, rfl, hr, hx⟩
    · simp at e
    have hv : LS h (.slice (some ⟨b, o, sp⟩) (y :: ys).length c) (y :: ys) g s := .inr ⟨b, o, sp, c, row, rfl, hr, hx⟩
    obtain ⟨h', e1, e2, e3, e4, e5⟩ := append_at (ts := []) T.ap f1 (by simp [ex_next]) q1 (x := .slice (some ⟨b, o, sp⟩) (y :: ys).length c) (m := ys.length) rfl (hv.fr hk f1).cells (allOne_flat ha) (flat_len hg _) (by simp at hn; omega)
    rw [show 0 + (ys.length + 1) = ys.length + 1 by omega] at e1 e2
    rw [List.nil_append] at e2
    simp only [sliceTo, List.length_cons] at e1 e2
    exact T.app _ _ _ _ _ hk ⟨_, _, e1, e3.ok, e2, fun e => (by simp at e), e3⟩
theorem eqn_none {C : Ctx} {t e : Nat} (hu : C.und t = some (.slice e)) (c : Bool) (n m : Nat) : aBin C .eql t c (.slice none n m) (.slice none 0 0) = some (.bool true) := by
  show obind (onD C t isSliceD true) boolV = _
  unfold onD; rw [hu]; rfl
theorem eqn_some {C : Ctx} {t e : Nat} (hu : C.und t = some (.slice e)) (c : Bool) (a : Addr) (n m : Nat) : aBin C .eql t c (.slice (some a) n m) (.slice none 0 0) = some (.bool false) := by
  show obind (onD C t isSliceD false) boolV = _
  unfold onD; rw [hu]; rfl
theorem ints_all (n : Int) : allOne (ints n) = true := rfl
theorem clone_ints : CloneT 67 22 22 1 := by
  refine ⟨fun n c h hk => ?_, fun a n c h Q hk hQ => ?_, appT (by kernel_rfl)⟩
  · refine CW_in Tryz.f67 (by kernel_rfl) (by kernel_rfl) rfl rfl ?_
    simp only [Tryz.f67]
    simp (maxDischargeDepth := 30) only [AMS, AMH, ↓reduceIte, Nat.reduceLT, Nat.reduceEqDiff, Nat.reduceAdd, Nat.reduceMul, reduceCtorEq, decide_true, decide_false, Nat.reduceLeDiff, Int.reduceNe, Int.reduceEq, ne_eq, not_false_eq_true, and_self, XH, bs_22, ix_22, part_3, size_22, size_3, und_22, zero_22, hk, eqn_none und_22]
  · obtain ⟨v, h', e, k', q⟩ := hQ
    refine CW_in Tryz.f67 (by kernel_rfl) (by kernel_rfl) rfl rfl ?_
    simp only [Tryz.f67]
    simp (maxDischargeDepth := 30) only [AMS, AMH, ↓reduceIte, Nat.reduceLT, Nat.reduceEqDiff, Nat.reduceAdd, Nat.reduceMul, reduceCtorEq, decide_true, decide_false, Nat.reduceLeDiff, Int.reduceNe, Int.reduceEq, ne_eq, not_false_eq_true, and_self, XH, bs_22, ix_22, part_3, size_22, size_3, und_22, zero_22, hk, eqn_some und_22, show aBuildSlice CC 22 0 [] = some (.new (.row [] 1 true) (sliceTo 1 0 0)) by kernel_rfl, e, k']
    exact q
theorem clone_rows : CloneT 197 33 33 1 := by
  refine ⟨fun n c h hk => ?_, fun a n c h Q hk hQ => ?_, appT (by kernel_rfl)⟩
  · refine CW_in Tryz.f197 (by kernel_rfl) (by kernel_rfl) rfl rfl ?_
    simp only [Tryz.f197]
    simp (maxDischargeDepth := 30) only [AMS, AMH, ↓reduceIte, Nat.reduceLT, Nat.reduceEqDiff, Nat.reduceAdd, Nat.reduceMul, reduceCtorEq, decide_true, decide_false, Nat.reduceLeDiff, Int.reduceNe, Int.reduceEq, ne_eq, not_false_eq_true, and_self, XH, bs_33, ix_33, part_22, size_22, size_33, und_33, zero_33, hk, eqn_none und_33]
  · obtain ⟨v, h', e, k', q⟩ := hQ
    refine CW_in Tryz.f197 (by kernel_rfl) (by kernel_rfl) rfl rfl ?_
    simp only [Tryz.f197]
    simp (maxDischargeDepth := 30) only [AMS, AMH, ↓reduceIte, Nat.reduceLT, Nat.reduceEqDiff, Nat.reduceAdd, Nat.reduceMul, reduceCtorEq, decide_true, decide_false, Nat.reduceLeDiff, Int.reduceNe, Int.reduceEq, ne_eq, not_false_eq_true, and_self, XH, bs_33, ix_33, part_22, size_22, size_33, und_33, zero_33, hk, eqn_some und_33, show aBuildSlice CC 33 0 [] = some (.new (.row [] 1 true) (sliceTo 1 0 0)) by kernel_rfl, e, k']
    exact q
theorem clone_pairs : CloneT 89 23 23 4 := by
  refine ⟨fun n c h hk => ?_, fun a n c h Q hk hQ => ?_, appT (by kernel_rfl)⟩
  · refine CW_in Tryz.f89 (by kernel_rfl) (by kernel_rfl) rfl rfl ?_
    simp only [Tryz.f89]
    simp (maxDischargeDepth := 30) only [AMS, AMH, ↓reduceIte, Nat.reduceLT, Nat.reduceEqDiff, Nat.reduceAdd, Nat.reduceMul, reduceCtorEq, decide_true, decide_false, Nat.reduceLeDiff, Int.reduceNe, Int.reduceEq, ne_eq, not_false_eq_true, and_self, XH, ix_23, part_200, size_200, size_23, und_23, zero_23, hk, eqn_none und_23]
  · obtain ⟨v, h', e, k', q⟩ := hQ
    refine CW_in Tryz.f89 (by kernel_rfl) (by kernel_rfl) rfl rfl ?_
    simp only [Tryz.f89]
    simp (maxDischargeDepth := 30) only [AMS, AMH, ↓reduceIte, Nat.reduceLT, Nat.reduceEqDiff, Nat.reduceAdd, Nat.reduceMul, reduceCtorEq, decide_true, decide_false, Nat.reduceLeDiff, Int.reduceNe, Int.reduceEq, ne_eq, not_false_eq_true, and_self, XH, ix_23, part_200, size_200, size_23, und_23, zero_23, hk, eqn_some und_23, show aBuildSlice CC 23 0 [] = some (.new (.row [] 4 true) (sliceTo 4 0 0)) by kernel_rfl, e, k']
    exact q
theorem clone_words : CloneT 196 26 26 3 := by
  refine ⟨fun n c h hk => ?_, fun a n c h Q hk hQ => ?_, appT (by kernel_rfl)⟩
  · refine CW_in Tryz.f196 (by kernel_rfl) (by kernel_rfl) rfl rfl ?_
    simp only [Tryz.f196]
    simp (maxDischargeDepth := 30) only [AMS, AMH, ↓reduceIte, Nat.reduceLT, Nat.reduceEqDiff, Nat.reduceAdd, Nat.reduceMul, reduceCtorEq, decide_true, decide_false, Nat.reduceLeDiff, Int.reduceNe, Int.reduceEq, ne_eq, not_false_eq_true, and_self, XH, ix_26, part_94, size_26, size_94, und_26, zero_26, hk, eqn_none und_26]
  · obtain ⟨v, h', e, k', q⟩ := hQ
    refine CW_in Tryz.f196 (by kernel_rfl) (by kernel_rfl) rfl rfl ?_
    simp only [Tryz.f196]
    simp (maxDischargeDepth := 30) only [AMS, AMH, ↓reduceIte, Nat.reduceLT, Nat.reduceEqDiff, Nat.reduceAdd, Nat.reduceMul, reduceCtorEq, decide_true, decide_false, Nat.reduceLeDiff, Int.reduceNe, Int.reduceEq, ne_eq, not_false_eq_true, and_self, XH, ix_26, part_94, size_26, size_94, und_26, zero_26, hk, eqn_some und_26, show aBuildSlice CC 26 0 [] = some (.new (.row [] 3 true) (sliceTo 3 0 0)) by kernel_rfl, e, k']
    exact q
theorem clone_spans : CloneT 92 29 29 2 := by
  refine ⟨fun n c h hk => ?_, fun a n c h Q hk hQ => ?_, appT (by kernel_rfl)⟩
  · refine CW_in Tryz.f92 (by kernel_rfl) (by kernel_rfl) rfl rfl ?_
    simp only [Tryz.f92]
    simp (maxDischargeDepth := 30) only [AMS, AMH, ↓reduceIte, Nat.reduceLT, Nat.reduceEqDiff, Nat.reduceAdd, Nat.reduceMul, reduceCtorEq, decide_true, decide_false, Nat.reduceLeDiff, Int.reduceNe, Int.reduceEq, ne_eq, not_false_eq_true, and_self, XH, ix_29, part_25, size_25, size_29, und_29, zero_29, hk, eqn_none und_29]
  · obtain ⟨v, h', e, k', q⟩ := hQ
    refine CW_in Tryz.f92 (by kernel_rfl) (by kernel_rfl) rfl rfl ?_
    simp only [Tryz.f92]
    simp (maxDischargeDepth := 30) only [AMS, AMH, ↓reduceIte, Nat.reduceLT, Nat.reduceEqDiff, Nat.reduceAdd, Nat.reduceMul, reduceCtorEq, decide_true, decide_false, Nat.reduceLeDiff, Int.reduceNe, Int.reduceEq, ne_eq, not_false_eq_true, and_self, XH, ix_29, part_25, size_25, size_29, und_29, zero_29, hk, eqn_some und_29, show aBuildSlice CC 29 0 [] = some (.new (.row [] 2 true) (sliceTo 2 0 0)) by kernel_rfl, e, k']
    exact q
theorem clone_coats : CloneT 93 30 30 2 := by
  refine ⟨fun n c h hk => ?_, fun a n c h Q hk hQ => ?_, appT (by kernel_rfl)⟩
  · refine CW_in Tryz.f93 (by kernel_rfl) (by kernel_rfl) rfl rfl ?_
    simp only [Tryz.f93]
    simp (maxDischargeDepth := 30) only [AMS, AMH, ↓reduceIte, Nat.reduceLT, Nat.reduceEqDiff, Nat.reduceAdd, Nat.reduceMul, reduceCtorEq, decide_true, decide_false, Nat.reduceLeDiff, Int.reduceNe, Int.reduceEq, ne_eq, not_false_eq_true, and_self, XH, ix_30, part_206, size_206, size_30, und_30, zero_30, hk, eqn_none und_30]
  · obtain ⟨v, h', e, k', q⟩ := hQ
    refine CW_in Tryz.f93 (by kernel_rfl) (by kernel_rfl) rfl rfl ?_
    simp only [Tryz.f93]
    simp (maxDischargeDepth := 30) only [AMS, AMH, ↓reduceIte, Nat.reduceLT, Nat.reduceEqDiff, Nat.reduceAdd, Nat.reduceMul, reduceCtorEq, decide_true, decide_false, Nat.reduceLeDiff, Int.reduceNe, Int.reduceEq, ne_eq, not_false_eq_true, and_self, XH, ix_30, part_206, size_206, size_30, und_30, zero_30, hk, eqn_some und_30, show aBuildSlice CC 30 0 [] = some (.new (.row [] 2 true) (sliceTo 2 0 0)) by kernel_rfl, e, k']
    exact q
theorem clone_tins : CloneT 98 41 41 6 := by
  refine ⟨fun n c h hk => ?_, fun a n c h Q hk hQ => ?_, appT (by kernel_rfl)⟩
  · refine CW_in Tryz.f98 (by kernel_rfl) (by kernel_rfl) rfl rfl ?_
    simp only [Tryz.f98]
    simp (maxDischargeDepth := 30) only [AMS, AMH, ↓reduceIte, Nat.reduceLT, Nat.reduceEqDiff, Nat.reduceAdd, Nat.reduceMul, reduceCtorEq, decide_true, decide_false, Nat.reduceLeDiff, Int.reduceNe, Int.reduceEq, ne_eq, not_false_eq_true, and_self, XH, ix_41, part_143, size_143, size_41, und_41, zero_41, hk, eqn_none und_41]
  · obtain ⟨v, h', e, k', q⟩ := hQ
    refine CW_in Tryz.f98 (by kernel_rfl) (by kernel_rfl) rfl rfl ?_
    simp only [Tryz.f98]
    simp (maxDischargeDepth := 30) only [AMS, AMH, ↓reduceIte, Nat.reduceLT, Nat.reduceEqDiff, Nat.reduceAdd, Nat.reduceMul, reduceCtorEq, decide_true, decide_false, Nat.reduceLeDiff, Int.reduceNe, Int.reduceEq, ne_eq, not_false_eq_true, and_self, XH, ix_41, part_143, size_143, size_41, und_41, zero_41, hk, eqn_some und_41, show aBuildSlice CC 41 0 [] = some (.new (.row [] 6 true) (sliceTo 6 0 0)) by kernel_rfl, e, k']
    exact q
theorem clone_boards : CloneT 99 44 44 5 := by
  refine ⟨fun n c h hk => ?_, fun a n c h Q hk hQ => ?_, appT (by kernel_rfl)⟩
  · refine CW_in Tryz.f99 (by kernel_rfl) (by kernel_rfl) rfl rfl ?_
    simp only [Tryz.f99]
    simp (maxDischargeDepth := 30) only [AMS, AMH, ↓reduceIte, Nat.reduceLT, Nat.reduceEqDiff, Nat.reduceAdd, Nat.reduceMul, reduceCtorEq, decide_true, decide_false, Nat.reduceLeDiff, Int.reduceNe, Int.reduceEq, ne_eq, not_false_eq_true, and_self, XH, ix_44, part_89, size_44, size_89, und_44, zero_44, hk, eqn_none und_44]
  · obtain ⟨v, h', e, k', q⟩ := hQ
    refine CW_in Tryz.f99 (by kernel_rfl) (by kernel_rfl) rfl rfl ?_
    simp only [Tryz.f99]
    simp (maxDischargeDepth := 30) only [AMS, AMH, ↓reduceIte, Nat.reduceLT, Nat.reduceEqDiff, Nat.reduceAdd, Nat.reduceMul, reduceCtorEq, decide_true, decide_false, Nat.reduceLeDiff, Int.reduceNe, Int.reduceEq, ne_eq, not_false_eq_true, and_self, XH, ix_44, part_89, size_44, size_89, und_44, zero_44, hk, eqn_some und_44, show aBuildSlice CC 44 0 [] = some (.new (.row [] 5 true) (sliceTo 5 0 0)) by kernel_rfl, e, k']
    exact q
theorem clone_tars : CloneT 100 45 45 5 := by
  refine ⟨fun n c h hk => ?_, fun a n c h Q hk hQ => ?_, appT (by kernel_rfl)⟩
  · refine CW_in Tryz.f100 (by kernel_rfl) (by kernel_rfl) rfl rfl ?_
    simp only [Tryz.f100]
    simp (maxDischargeDepth := 30) only [AMS, AMH, ↓reduceIte, Nat.reduceLT, Nat.reduceEqDiff, Nat.reduceAdd, Nat.reduceMul, reduceCtorEq, decide_true, decide_false, Nat.reduceLeDiff, Int.reduceNe, Int.reduceEq, ne_eq, not_false_eq_true, and_self, XH, ix_45, part_166, size_166, size_45, und_45, zero_45, hk, eqn_none und_45]
  · obtain ⟨v, h', e, k', q⟩ := hQ
    refine CW_in Tryz.f100 (by kernel_rfl) (by kernel_rfl) rfl rfl ?_
    simp only [Tryz.f100]
    simp (maxDischargeDepth := 30) only [AMS, AMH, ↓reduceIte, Nat.reduceLT, Nat.reduceEqDiff, Nat.reduceAdd, Nat.reduceMul, reduceCtorEq, decide_true, decide_false, Nat.reduceLeDiff, Int.reduceNe, Int.reduceEq, ne_eq, not_false_eq_true, and_self, XH, ix_45, part_166, size_166, size_45, und_45, zero_45, hk, eqn_some und_45, show aBuildSlice CC 45 0 [] = some (.new (.row [] 5 true) (sliceTo 5 0 0)) by kernel_rfl, e, k']
    exact q
theorem clone_strokes : CloneT 198 36 36 5 := by
  refine ⟨fun n c h hk => ?_, fun a n c h Q hk hQ => ?_, appT (by kernel_rfl)⟩
  · refine CW_in Tryz.f198 (by kernel_rfl) (by kernel_rfl) rfl rfl ?_
    simp only [Tryz.f198]
    simp (maxDischargeDepth := 30) only [AMS, AMH, ↓reduceIte, Nat.reduceLT, Nat.reduceEqDiff, Nat.reduceAdd, Nat.reduceMul, reduceCtorEq, decide_true, decide_false, Nat.reduceLeDiff, Int.reduceNe, Int.reduceEq, ne_eq, not_false_eq_true, and_self, XH, ix_36, part_96, size_36, size_96, und_36, zero_36, hk, eqn_none und_36]
  · obtain ⟨v, h', e, k', q⟩ := hQ
    refine CW_in Tryz.f198 (by kernel_rfl) (by kernel_rfl) rfl rfl ?_
    simp only [Tryz.f198]
    simp (maxDischargeDepth := 30) only [AMS, AMH, ↓reduceIte, Nat.reduceLT, Nat.reduceEqDiff, Nat.reduceAdd, Nat.reduceMul, reduceCtorEq, decide_true, decide_false, Nat.reduceLeDiff, Int.reduceNe, Int.reduceEq, ne_eq, not_false_eq_true, and_self, XH, ix_36, part_96, size_36, size_96, und_36, zero_36, hk, eqn_some und_36, show aBuildSlice CC 36 0 [] = some (.new (.row [] 5 true) (sliceTo 5 0 0)) by kernel_rfl, e, k']
    exact q
end Go.Am
