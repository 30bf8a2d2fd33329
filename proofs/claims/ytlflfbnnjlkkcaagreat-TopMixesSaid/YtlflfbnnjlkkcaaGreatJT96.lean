/- Parts T96, T97 of the abstract machine over this program, joined: what each part says stands at its head. -/
import Derived.Test.YtlflfbnnjlkkcaaGreatJT93
set_option linter.unusedSimpArgs false
set_option linter.unusedVariables false
/- The abstract machine over this program: mixtures are entered. -/
namespace Go.Am
open Go Go.Proofs
theorem F21_T96 : type_of% (And.intro @bld_80 <| And.intro @fld_80_0 <| And.intro @fld_80_1 <| And.intro @fp_110_2 <| And.intro @fp_80_0 <| And.intro @fp_80_1 <| And.intro @ix_108 <| And.intro @ld_108 <| And.intro @ld_22 <| And.intro @ld_77 <| And.intro @ld_80 <| And.intro @len_108 <| And.intro @part_80 <| And.intro @size_108 <| And.intro @size_154 <| And.intro @size_80 <| And.intro @sp_80_0 <| And.intro @sp_80_1 <| And.intro @und_108 <| And.intro @und_154 <| And.intro @zero_108 <| And.intro @zero_154 @zero_80) := And.intro @bld_80 <| And.intro @fld_80_0 <| And.intro @fld_80_1 <| And.intro @fp_110_2 <| And.intro @fp_80_0 <| And.intro @fp_80_1 <| And.intro @ix_108 <| And.intro @ld_108 <| And.intro @ld_22 <| And.intro @ld_77 <| And.intro @ld_80 <| And.intro @len_108 <| And.intro @part_80 <| And.intro @size_108 <| And.intro @size_154 <| And.intro @size_80 <| And.intro @sp_80_0 <| And.intro @sp_80_1 <| And.intro @und_108 <| And.intro @und_154 <| And.intro @zero_108 <| And.intro @zero_154 @zero_80
/-- what is in stock after a mixture was made so many times -/
def stockK (s l : List Int) : Nat → List Int
  | 0 => s
  | k + 1 => subL (stockK s l k) l
theorem stockK_len (s l : List Int) : ∀ k, (stockK s l k).length = s.length
  | 0 => rfl
  | k + 1 => by show (subN _ _ _).length = _; rw [subN_len, stockK_len s l k]
theorem stockK_at {s l : List Int} {i : Nat} {x y : Int} (hx : s[i]? = some x) (hy : l[i]? = some y) : ∀ k : Nat, (stockK s l k)[i]? = some (x - k * y)
  | 0 => by rw [show stockK s l 0 = s from rfl, hx]; simp
  | k + 1 => by
    have ih := stockK_at hx hy k
    have hi : i < (stockK s l k).length := (List.getElem?_eq_some_iff.1 ih).1
    show (subN _ _ _)[i]? = _
    rw [subN_get l _ ih, if_pos hi]
    simp only [List.getD_eq_getElem?_getD, hy, Option.getD_some]
    congr 1
    rw [show ((k + 1 : Nat) : Int) * y = k * y + y by rw [Int.natCast_add, Int.add_mul]; simp]
    omega
/-- the states of a desk at which mixtures are made -/
def mixT (S : SuiteD) (l : List Int) (k : Nat) : Sta := { sta0 S with S := { S with stock := stockK S.stock l k }, stands := upto k }
theorem mixT0 (S : SuiteD) (l : List Int) : mixT S l 0 = sta0 S := rfl
structure MixIn (S : SuiteD) (l : List Int) : Prop where
  G : S.tints.Good
  M : MixGood S.tints l
  len : l.length = S.stock.length
  st : ∀ x ∈ S.stock, 0 ≤ x ∧ x ≤ 40
theorem MixIn.n {S : SuiteD} {l : List Int} (q : MixIn S l) : 1 ≤ l.length ∧ l.length ≤ 4 := by
  have := of_decide_eq_true q.G.tins; rw [q.M.len]; omega
theorem MixIn.x {S : SuiteD} {l : List Int} (q : MixIn S l) : ∀ x ∈ l, 0 ≤ x ∧ x ≤ 8 := fun x hx => of_decide_eq_true (q.M.all x hx)
theorem mix_does {S : SuiteD} {l : List Int} (q : MixIn S l) {h : Heap} (hk : HOK h) {P : Nat → Prop} {evs : List EntryV} {k : Nat} (he : LR (IsEntry P) h evs (List.replicate k ⟨5, l⟩)) (hn : k ≤ 1000) : Does h evs (mixT S l) := by
  intro i u hu h1 p v k1 hp fr sv
  obtain ⟨e, he', hu1, hu2⟩ := he.get' hu
  have : e = ⟨5, l⟩ := (List.mem_replicate.1 (List.mem_of_getElem? he')).2
  subst this
  have hi : i < k := by have := (List.getElem?_eq_some_iff.1 he').1; simpa using this
  have hl := q.n
  have lw := hu2.1
  have lw1 := lw.fr hk fr
  have low : ∀ b, blkOf u.nums = some b → b < h.next := fun b hb => by
    rcases lw with ⟨e, _⟩ | ⟨b', o, sp, c, row, e, hr, _⟩
    · have e : l = [] := e
      rw [e] at hl; simp at hl
    · rw [e] at hb; simp [blkOf] at hb; subst hb; exact row_lt hk hr
  have hu1 : u.kind = 5 := hu1
  refine ⟨.iface 271 u.nums, ?_, fun h2 k2 f2 => ?_⟩
  · have := acted_mix k1 lw1
    rw [← hu1] at this
    exact this
  · have := does_mix k2 (sv.fr k1 f2) (lw1.fr k1 f2) low (by show l.length = (stockK S.stock l i).length; rw [stockK_len]; exact q.len) (by show l.length ≤ 1000; omega) (fun x hx => by have := q.x x hx; omega) (fun x hx => by
      obtain ⟨j, hj⟩ := List.mem_iff_getElem?.1 hx
      have hjl : j < S.stock.length := by have := (List.getElem?_eq_some_iff.1 hj).1; rwa [show (mixT S l i).S.stock = stockK S.stock l i from rfl, stockK_len] at this
      obtain ⟨a, ha⟩ : ∃ a, S.stock[j]? = some a := ⟨_, List.getElem?_eq_getElem hjl⟩
      obtain ⟨b, hb⟩ : ∃ b, l[j]? = some b := ⟨_, List.getElem?_eq_getElem (by rw [q.len]; exact hjl)⟩
      have e := stockK_at ha hb i
      rw [show (stockK S.stock l i)[j]? = some x from hj] at e
      simp at e; subst e
      have h1 := q.st a (List.mem_of_getElem? ha)
      have h2 := q.x b (List.mem_of_getElem? hb)
      have h3 : 0 ≤ (i : Int) * b := Int.mul_nonneg (by omega) (by omega)
      have h4 : (i : Int) * b ≤ 1000 * 8 := Int.mul_le_mul (by omega) (by omega) (by omega) (by omega)
      omega)
    exact this
theorem bs_ent (a b : Value) : aBuildSlice CC 108 1 [(0, .agg ⟨[a, b]⟩)] = some (.new (.row [a, b] 2 true) (sliceTo 2 1 1)) := by kernel_rfl
theorem sd_len (S : SuiteD) (w : DeskV) : (S.desk w).length = 37 := rfl
set_option maxRecDepth 10000 in
set_option maxHeartbeats 2000000 in
theorem enter_mix {N d k : Nat} {h : Heap} (hk : HOK h) (hp : 0 < h.next) {S : SuiteD} {l : List Int} {w : DeskV} (D : IsDesk N h d S (List.replicate k ⟨5, l⟩) w) (q : MixIn S l) (sm : S.Small) (ex1 : S.coats = exD.coats) (ex2 : S.bench = exD.bench) (ho : S.prices.offs.length ≤ 4) (hkn : k < 24) {v : Value} (hv : LS h v l ints 1) :
    CW CC 21 [.pointer (some ⟨d, 0, none⟩), .agg ⟨[.int .i64 5, v]⟩] h fun r h' =>
      ((MixOK S.tints (stockK S.stock l k) l ∧ r = .int .i64 0 ∧ ∃ w', IsDesk N h' d S (List.replicate (k + 1) ⟨5, l⟩) w') ∨ (¬ MixOK S.tints (stockK S.stock l k) l ∧ r = .int .i64 7 ∧ IsDesk N h' d S (List.replicate k ⟨5, l⟩) w)) ∧ Gr (fun b => N ≤ b) h h' := by
  have hl := q.n
  have len : w.evs.length = k := by rw [D.nums.1]; simp
  have fo : formed 5 l = true := by
    unfold formed
    rw [show isKind 5 = true from rfl, show inP l.length (manyK 5).1 (manyK 5).2 = true from decide_eq_true (by show (1 : Int) ≤ _ ∧ _ ≤ (4 : Int); omega)]
    simp only [Bool.true_and]
    exact List.all_eq_true.2 fun x hx => by have := q.x x hx; exact decide_eq_true (by omega)
  obtain ⟨pv, cv, rfl⟩ := hv.len
  have n24 : decide ((w.evs.length : Int) ≥ 24) = false := decide_eq_false (by omega)
  refine CW_in Tryz.f21 (by kernel_rfl) (by kernel_rfl) rfl rfl ?_
  simp only [Tryz.f21]
  have f1 := ex_fr [.row [.int .i64 5, .slice pv l.length cv] 0 true] (Fr.refl hk)
  have g1 : (h.ex [.row [.int .i64 5, .slice pv l.length cv] 0 true]).get h.next = some (.row [.int .i64 5, .slice pv l.length cv] 0 true) := ex_at0 rfl
  have m1 : (h.ex [.row [.int .i64 5, .slice pv l.length cv] 0 true]).next = h.next + 1 := by rw [ex_next]; rfl
  simp (maxDischargeDepth := 30) only [AMS, AMH, ↓reduceIte, Nat.reduceLT, Nat.reduceEqDiff, Nat.reduceAdd, Nat.reduceMul, reduceCtorEq, decide_true, decide_false, Nat.reduceLeDiff, Int.reduceNe, Int.reduceEq, ne_eq, not_false_eq_true, and_self, XH, F21_T96, hk, is_d f1.ok (D.fr hk f1)]
  refine W_call (isFormed_p f1.ok (hv.fr hk f1) (by omega)) ?_
  rintro _ h2 ⟨rfl, f2⟩
  have f02 := f1.trans f2
  have D2 := D.fr hk f02
  have rd2 : rowAt h2 d = some (S.desk w) := by unfold rowAt; rw [D2.row]; rfl
  obtain ⟨pe, ce, eev⟩ := D.ent.value
  simp (maxDischargeDepth := 30) only [AMS, AMH, ↓reduceIte, Nat.reduceLT, Nat.reduceEqDiff, Nat.reduceAdd, Nat.reduceMul, reduceCtorEq, decide_true, decide_false, Nat.reduceLeDiff, Int.reduceNe, Int.reduceEq, ne_eq, not_false_eq_true, and_self, XH, F21_T96, f2.ok, fo, rd2, sd_ev, eev, n24]
  have n2 := f02.next
  refine W_call (stands_d f2.ok (by omega) D2 sm ex1 ex2 ho (by omega) (fun e he => by
    obtain ⟨j, hj⟩ := List.mem_iff_getElem?.1 he
    obtain ⟨e', he', hu⟩ := D.nums.get' hj
    have : e' = ⟨5, l⟩ := (List.mem_replicate.1 (List.mem_of_getElem? he')).2
    subst this
    have : e.kind = 5 := hu.1
    omega) (mixT0 S l) (fun i => upto_succ i) (mix_does q f2.ok D2.nums (by omega))) ?_
  rintro _ h3 ⟨⟨p, sv, rfl, st⟩, f3⟩
  rw [len] at st
  have f03 := f02.trans f3
  have n3 := f03.next
  have g3 := f3.get' f2.ok (f2.get' f1.ok g1)
  have r3 : rowAt h3 h.next = some [.int .i64 5, .slice pv l.length cv] := by unfold rowAt; rw [g3]; rfl
  have f4 := ex_fr [.row [.pointer (some ⟨p, 0, none⟩)] 0 true] (Fr.refl f3.ok)
  have c4 : rowAt (h3.ex [.row [.pointer (some ⟨p, 0, none⟩)] 0 true]) h3.next = some [.pointer (some ⟨p, 0, none⟩)] := rx_at0 rfl
  simp (maxDischargeDepth := 30) only [AMS, AMH, ↓reduceIte, Nat.reduceLT, Nat.reduceEqDiff, Nat.reduceAdd, Nat.reduceMul, reduceCtorEq, decide_true, decide_false, Nat.reduceLeDiff, Int.reduceNe, Int.reduceEq, ne_eq, not_false_eq_true, and_self, XH, F21_T96, f3.ok]
  refine W_call (can_d (P0 := MixOK S.tints (stockK S.stock l k) l) f4.ok fun h5 f5 => enter1_mix f5.ok (by have := f5.next; have := f4.next; omega) ((st.fr f3.ok f4).fr f4.ok f5) (((hv.fr hk f03).fr f3.ok f4).fr f4.ok f5) q.G q.M (by show l.length = (stockK S.stock l k).length; rw [stockK_len]; exact q.len) (f5.row' f4.ok (f4.row' f3.ok r3)) (f5.row' f4.ok c4)) ?_
  rintro _ h5 ⟨hc, f5⟩
  have f05 := f03.trans (f4.trans f5)
  rcases hc with ⟨hm, rfl⟩ | ⟨hm, rfl⟩
  rotate_left
  · simp (maxDischargeDepth := 30) only [AMS, AMH, ↓reduceIte, Nat.reduceLT, Nat.reduceEqDiff, Nat.reduceAdd, Nat.reduceMul, reduceCtorEq, decide_true, decide_false, Nat.reduceLeDiff, Int.reduceNe, Int.reduceEq, ne_eq, not_false_eq_true, and_self, XH, F21_T96, f5.ok]
    exact ⟨.inr ⟨hm, trivial, D.fr hk f05⟩, f05.gr⟩
  have r5 := (f4.trans f5).row' f3.ok r3
  have D5 := D.fr hk f05
  have rd5 : rowAt h5 d = some (S.desk w) := by unfold rowAt; rw [D5.row]; rfl
  have n5 := f05.next
  have dl := get_lt hk D.row
  simp (maxDischargeDepth := 30) only [AMS, AMH, ↓reduceIte, Nat.reduceLT, Nat.reduceEqDiff, Nat.reduceAdd, Nat.reduceMul, reduceCtorEq, decide_true, decide_false, Nat.reduceLeDiff, Int.reduceNe, Int.reduceEq, ne_eq, not_false_eq_true, and_self, XH, F21_T96, f5.ok]
  refine W_draw [(true, 0), (true, 1), (true, 2), (true, 3), (true, 4), (true, 5), (true, 6), (true, 7), (true, 8), (true, 9), (false, 4), (false, 6), (true, 10), (true, 11), (true, 12), (true, 13), (true, 14), (true, 15)] (by kernel_rfl) ?_
  simp (maxDischargeDepth := 30) only [AMS, AMH, ↓reduceIte, Nat.reduceLT, Nat.reduceEqDiff, Nat.reduceAdd, Nat.reduceMul, reduceCtorEq, decide_true, decide_false, Nat.reduceLeDiff, Int.reduceNe, Int.reduceEq, ne_eq, not_false_eq_true, and_self, AMR, XH, F21_T96, f5.ok, r5, rd5, sd_ev, eev]
  refine W_callP (clone_ints.clone ints_len f5.ok (by omega) (hv.fr hk f05) (fun x _ => ints_all x) (by omega)) ?_
  rintro nv h6 ⟨q6, _, f6⟩
  have f06 := f05.trans f6
  have n6 := f06.next
  have D6 := D.fr hk f06
  obtain ⟨h7, e7, k7, g7, D7, gr7⟩ := desk_step f6.ok (by omega) D6 (by have := D.low; omega) 5 (M := h5.next) q6 (by have := D.low; omega) (by omega) (by omega)
  obtain ⟨pn, cn, rfl⟩ := q6.value
  have r6 := f6.row' f5.ok r5
  have rd6 : rowAt h6 d = some (S.desk w) := by unfold rowAt; rw [D6.row]; rfl
  rw [eev] at e7
  simp (maxDischargeDepth := 30) only [AMS, AMH, ↓reduceIte, Nat.reduceLT, Nat.reduceEqDiff, Nat.reduceAdd, Nat.reduceMul, reduceCtorEq, decide_true, decide_false, Nat.reduceLeDiff, Int.reduceNe, Int.reduceEq, ne_eq, not_false_eq_true, and_self, AMR, XH, F21_T96, f6.ok, r6, rd6, sd_ev, eev, bs_ent, e7]
  have rd7 : rowAt h7 d = some (S.desk w) := by unfold rowAt; rw [g7]; rfl
  have se : sameV w.ev w.ev = true := by rw [eev]; exact same_slice _ _ _
  have w7 : write? (S.desk w) 36 [.slice (some ⟨h6.next + 1, 0, some 2⟩) (w.evs.length + 1) (w.evs.length + 1)] = some (S.desk (w.put (.slice (some ⟨h6.next + 1, 0, some 2⟩) (w.evs.length + 1) (w.evs.length + 1)) ⟨5, .slice pn l.length cn⟩)) := by
    rw [write_one _ _ _ (by rw [sd_len]; omega)]; rfl
  simp (maxDischargeDepth := 30) only [AMS, AMH, ↓reduceIte, Nat.reduceLT, Nat.reduceEqDiff, Nat.reduceAdd, Nat.reduceMul, reduceCtorEq, decide_true, decide_false, Nat.reduceLeDiff, Int.reduceNe, Int.reduceEq, ne_eq, not_false_eq_true, and_self, AMR, XH, F21_T96, k7, rd7, g7, sd_ev, eev, w7]
  rw [← List.replicate_succ'] at D7
  refine ⟨.inl ⟨hm, trivial, _, D7⟩, ?_⟩
  · refine f06.gr.trans ⟨gr7.ok, gr7.next, fun b hb hn => gr7.get b hb ?_⟩
    rintro (e | e)
    · subst e; exact hn D.low
    · exact hn (D.ent.blk_lt hk e).1
end Go.Am

/- The abstract machine over this program: questions: what is left of a tin, whether a mixture matches. -/
namespace Go.Am
open Go Go.Proofs
theorem F26_T97 : type_of% (And.intro @fp_92_0 <| And.intro @fp_92_1 <| And.intro @ia_182_0 <| And.intro @ia_182_1 <| And.intro @ia_182_2 <| And.intro @ia_182_3 <| And.intro @ia_182_4 <| And.intro @ia_182_5 <| And.intro @ia_182_6 <| And.intro @ia_182_7 <| And.intro @ld_22 <| And.intro @ld_69 <| And.intro @ld_92 <| And.intro @part_181 <| And.intro @size_181 <| And.intro @size_182 <| And.intro @und_182 <| And.intro @xi_182_0 <| And.intro @xi_182_1 <| And.intro @xi_182_2 <| And.intro @xi_182_3 <| And.intro @xi_182_4 <| And.intro @xi_182_5 <| And.intro @xi_182_6 <| And.intro @xi_182_7 @zero_182) := And.intro @fp_92_0 <| And.intro @fp_92_1 <| And.intro @ia_182_0 <| And.intro @ia_182_1 <| And.intro @ia_182_2 <| And.intro @ia_182_3 <| And.intro @ia_182_4 <| And.intro @ia_182_5 <| And.intro @ia_182_6 <| And.intro @ia_182_7 <| And.intro @ld_22 <| And.intro @ld_69 <| And.intro @ld_92 <| And.intro @part_181 <| And.intro @size_181 <| And.intro @size_182 <| And.intro @und_182 <| And.intro @xi_182_0 <| And.intro @xi_182_1 <| And.intro @xi_182_2 <| And.intro @xi_182_3 <| And.intro @xi_182_4 <| And.intro @xi_182_5 <| And.intro @xi_182_6 <| And.intro @xi_182_7 @zero_182
theorem F31_T97 : type_of% (And.intro @ix_22 <| And.intro @ld_3 <| And.intro @len_22 <| And.intro @part_3 <| And.intro @size_22 <| And.intro @size_3 <| And.intro @und_22 @zero_22) := And.intro @ix_22 <| And.intro @ld_3 <| And.intro @len_22 <| And.intro @part_3 <| And.intro @size_22 <| And.intro @size_3 <| And.intro @und_22 @zero_22
theorem F173_T97 : type_of% (And.intro @bs_22 <| And.intro @fp_257_0 <| And.intro @fp_49_5 <| And.intro @ix_22 <| And.intro @ld_22 <| And.intro @ld_3 <| And.intro @len_22 <| And.intro @part_3 <| And.intro @size_22 <| And.intro @size_3 <| And.intro @und_22 @zero_22) := And.intro @bs_22 <| And.intro @fp_257_0 <| And.intro @fp_49_5 <| And.intro @ix_22 <| And.intro @ld_22 <| And.intro @ld_3 <| And.intro @len_22 <| And.intro @part_3 <| And.intro @size_22 <| And.intro @size_3 <| And.intro @und_22 @zero_22
set_option maxRecDepth 10000 in
theorem same_r (v w : Value) (l m : List Int) (h : Heap) (hk : HOK h) (hv : LS h v l ints 1) (hw : LS h w m ints 1) (hl : l.length ≤ 1000) (hm : m.length ≤ 1000) : CW CC 31 [v, w] h fun r h' => r = .bool (decide (l = m)) ∧ h' = h := by
  obtain ⟨p, c, rfl, hx⟩ := hv.open
  obtain ⟨p', c', rfl, hy⟩ := hw.open
  refine CW_in Tryz.f31 (by kernel_rfl) (by kernel_rfl) rfl rfl ?_
  simp only [Tryz.f31]
  by_cases hne : (l.length : Int) = m.length
  · have hne' : l.length = m.length := by omega
    simp (maxDischargeDepth := 30) only [AMS, AMH, ↓reduceIte, Nat.reduceLT, Nat.reduceEqDiff, Nat.reduceAdd, Nat.reduceMul, reduceCtorEq, decide_true, decide_false, Nat.reduceLeDiff, Int.reduceNe, Int.reduceEq, ne_eq, not_false_eq_true, and_self, F31_T97, hne, bne_self_eq_false]
    refine W_loop l.length (fun n f h' => ∃ i, i ≤ l.length ∧ n = l.length - i ∧ f 0 = .slice p l.length c ∧ f 1 = .slice p' m.length c' ∧ f 5 = .int .i64 i ∧ l.take i = m.take i ∧ h' = h) ⟨0, by omega, by omega, by simp [upd_at, argsFn_at, hne], by simp [upd_at, argsFn_at], by simp [upd_at], by simp, rfl⟩ ?_
    rintro n f h' ⟨i, hi, rfl, g0, g1, g5, ht, rfl⟩ ih
    by_cases hil : i < l.length
    · have him : i < m.length := by omega
      obtain ⟨x, gx⟩ : ∃ x, l[i]? = some x := ⟨_, List.getElem?_eq_getElem hil⟩
      obtain ⟨y, gy⟩ : ∃ y, m[i]? = some y := ⟨_, List.getElem?_eq_getElem him⟩
      rcases hx with hx | ⟨b2, o2, sp2, row2, rfl, rr2, x2⟩
      · rw [hx] at hil; simp at hil
      rcases hy with hy | ⟨b4, o4, sp4, row4, rfl, rr4, x4⟩
      · rw [hy] at him; simp at him
      have e1 : row2[o2 + i]? = some (.int .i64 x) := by simpa [ints] using (x2 _ _ gx).2 0 (by omega)
      have e2 : row4[o4 + i]? = some (.int .i64 y) := by simpa [ints] using (x4 _ _ gy).2 0 (by omega)
      have n2 := row_lt hk rr2
      have n4 := row_lt hk rr4
      simp (maxDischargeDepth := 30) only [AMS, AMH, ↓reduceIte, Nat.reduceLT, Nat.reduceEqDiff, Nat.reduceAdd, Nat.reduceMul, reduceCtorEq, decide_true, decide_false, Nat.reduceLeDiff, Int.reduceNe, Int.reduceEq, ne_eq, not_false_eq_true, and_self, F31_T97, g0, g1, g5, lt_t hil, hil, him]
      refine W_draw [(true, 0), (true, 1), (true, 2), (true, 3), (true, 4), (true, 5), (true, 6), (true, 7), (true, 8)] (by kernel_rfl) ?_
      cases hxy : (x != y) with
      | true =>
        simp (maxDischargeDepth := 30) only [AMS, AMH, ↓reduceIte, Nat.reduceLT, Nat.reduceEqDiff, Nat.reduceAdd, Nat.reduceMul, reduceCtorEq, decide_true, decide_false, Nat.reduceLeDiff, Int.reduceNe, Int.reduceEq, ne_eq, not_false_eq_true, and_self, AMR, F31_T97, hk, g0, g1, g5, hil, him, n2, n4, rr2, rr4, Nat.mul_one, e1, e2, hxy]
        refine ⟨?_, trivial⟩
        have : l ≠ m := fun e => by
          rw [e, gy] at gx
          simp at gx hxy
          exact hxy gx.symm
        simp [this]
      | false =>
        simp (maxDischargeDepth := 30) only [AMS, AMH, ↓reduceIte, Nat.reduceLT, Nat.reduceEqDiff, Nat.reduceAdd, Nat.reduceMul, reduceCtorEq, decide_true, decide_false, Nat.reduceLeDiff, Int.reduceNe, Int.reduceEq, ne_eq, not_false_eq_true, and_self, AMR, F31_T97, hk, g0, g1, g5, hil, him, n2, n4, rr2, rr4, Nat.mul_one, e1, e2, hxy, i_next hil hl]
        refine ih (l.length - (i + 1)) _ _ (by omega) ?_
        have hxy' : x = y := by simpa using hxy
        exact ⟨i + 1, by omega, rfl, by simp [upd_at, g0], by simp [upd_at, g1], by simp [upd_at], by rw [take_snoc gx, take_snoc gy, ht, hxy'], rfl⟩
    · have : i = l.length := by omega
      subst this
      simp (maxDischargeDepth := 30) only [AMS, AMH, ↓reduceIte, Nat.reduceLT, Nat.reduceEqDiff, Nat.reduceAdd, Nat.reduceMul, reduceCtorEq, decide_true, decide_false, Nat.reduceLeDiff, Int.reduceNe, Int.reduceEq, ne_eq, not_false_eq_true, and_self, F31_T97, g0, g1, g5, lt_f]
      rw [List.take_of_length_le (Nat.le_refl _), List.take_of_length_le (by omega)] at ht
      exact ⟨by simp [ht], trivial⟩
  · have hb : ((l.length : Int) != m.length) = true := by simpa using hne
    simp (maxDischargeDepth := 30) only [AMS, AMH, ↓reduceIte, Nat.reduceLT, Nat.reduceEqDiff, Nat.reduceAdd, Nat.reduceMul, reduceCtorEq, decide_true, decide_false, Nat.reduceLeDiff, Int.reduceNe, Int.reduceEq, ne_eq, not_false_eq_true, and_self, F31_T97, hb]
    refine ⟨?_, trivial⟩
    have : l ≠ m := fun e => hne (by rw [e])
    simp [this]

theorem topics_d {h : Heap} (hk : HOK h) : CW CC 78 [] h fun r h' => r = .agg ⟨[.func (.func 167) ⟨[]⟩ ⟨[]⟩, .func (.func 168) ⟨[]⟩ ⟨[]⟩, .func (.func 169) ⟨[]⟩ ⟨[]⟩, .func (.func 170) ⟨[]⟩ ⟨[]⟩, .func (.func 171) ⟨[]⟩ ⟨[]⟩, .func (.func 172) ⟨[]⟩ ⟨[]⟩, .func (.func 173) ⟨[]⟩ ⟨[]⟩, .func (.func 174) ⟨[]⟩ ⟨[]⟩, .func (.func 175) ⟨[]⟩ ⟨[]⟩, .func (.func 176) ⟨[]⟩ ⟨[]⟩, .func (.func 177) ⟨[]⟩ ⟨[]⟩, .func (.func 178) ⟨[]⟩ ⟨[]⟩, .func (.func 179) ⟨[]⟩ ⟨[]⟩, .func (.func 180) ⟨[]⟩ ⟨[]⟩, .func (.func 181) ⟨[]⟩ ⟨[]⟩, .func (.func 182) ⟨[]⟩ ⟨[]⟩]⟩ ∧ Fr h h' := by
  refine CW_in Tryz.f78 (by kernel_rfl) (by kernel_rfl) rfl rfl ?_
  simp only [Tryz.f78]
  simp (maxDischargeDepth := 30) only [AMS, AMH, ↓reduceIte, Nat.reduceLT, Nat.reduceEqDiff, Nat.reduceAdd, Nat.reduceMul, reduceCtorEq, decide_true, decide_false, Nat.reduceLeDiff, Int.reduceNe, Int.reduceEq, ne_eq, not_false_eq_true, and_self, XH, bld_182, ld_182, part_181, size_181, size_182, und_182, zero_182, hk]
  exact ⟨trivial, ex_fr _ (Fr.refl hk)⟩
theorem ix0 {b o : Nat} {sp : Option Nat} {n c : Nat} (hn : 0 < n) : aIndexAddr CC 22 (.slice (some ⟨b, o, sp⟩) n c) (.int .i64 0) = some (.pointer (some ⟨b, o, none⟩)) := by
  have := ix_22 b o sp n c 0 hn
  simpa using this
theorem one_d (v : Value) (h : Heap) : callF CC (Lim CC) 247 [v] h = some (.ret v h none) := by
  refine CW.eq (CW_in Tryz.f247 (by kernel_rfl) (by kernel_rfl) rfl rfl ?_)
  simp only [Tryz.f247]
  simp (maxDischargeDepth := 30) only [AMS, AMH, ↓reduceIte, Nat.reduceLT, Nat.reduceEqDiff, Nat.reduceAdd, Nat.reduceMul, reduceCtorEq, decide_true, decide_false, Nat.reduceLeDiff, Int.reduceNe, Int.reduceEq, ne_eq, not_false_eq_true, and_self, L_nil]
set_option maxRecDepth 10000 in
theorem askLeft_d {N : Nat} {h : Heap} {p : Nat} {σ : Sta} {v : StV} (hk : HOK h) (q : IsState N h p σ v) {w : Value} {i : Nat} {x : Int} (hw : LS h w [(i : Int)] ints 1) (hx : σ.S.stock[i]? = some x) (hn : σ.S.stock.length ≤ 1000) :
    CW CC 173 [.pointer (some ⟨p, 0, none⟩), w] h fun r h' => (∃ u, r = .tuple ⟨[u, .int .i64 0]⟩ ∧ LS h' u [x] ints 1) ∧ Fr h h' := by
  have rp : rowAt h p = some (σ.cells v) := by unfold rowAt; rw [q.row]; rfl
  rcases hw with ⟨e, _⟩ | ⟨b, o, sp, c, row, rfl, hr, hy⟩
  · simp at e
  have c1 : row[o]? = some (.int .i64 i) := by simpa [ints] using (hy 0 _ rfl).2 0 (by omega)
  rcases q.sk with ⟨e1, _⟩ | ⟨bs, sps, cs, e2, hg⟩
  · rw [e1] at hx; simp at hx
  have hrs : rowAt h bs = some (σ.S.stock.flatMap ints) := by unfold rowAt; rw [hg]; rfl
  have hi := (List.getElem?_eq_some_iff.1 hx).1
  have c2 := ints_at hx
  have w1 : IntKind.i64.wrap ((σ.S.stock.length : Int) - 1) = (σ.S.stock.length : Int) - 1 := wrap64 (by omega) (by omega)
  have i1 : inP (i : Int) 0 ((σ.S.stock.length : Int) - 1) = true := decide_eq_true (by omega)
  have sk : sameV v.u.sk v.u.sk = true := by rw [e2]; exact same_slice _ _ _
  refine CW_in Tryz.f173 (by kernel_rfl) (by kernel_rfl) rfl rfl ?_
  simp only [Tryz.f173]
  simp (maxDischargeDepth := 30) only [AMS, AMH, ↓reduceIte, Nat.reduceLT, Nat.reduceEqDiff, Nat.reduceAdd, Nat.reduceMul, reduceCtorEq, decide_true, decide_false, Nat.reduceLeDiff, Int.reduceNe, Int.reduceEq, ne_eq, not_false_eq_true, and_self, XH, F173_T97, hk]
  refine W_draw [(true, 0), (true, 1), (true, 2), (true, 3), (true, 4), (true, 5), (true, 6), (true, 7), (true, 8), (true, 9), (true, 10), (true, 11)] (by kernel_rfl) ?_
  have l1 : (0 : Nat) < 1 := by omega
  simp (maxDischargeDepth := 30) only [AMS, AMH, ↓reduceIte, Nat.reduceLT, Nat.reduceEqDiff, Nat.reduceAdd, Nat.reduceMul, reduceCtorEq, decide_true, decide_false, Nat.reduceLeDiff, Int.reduceNe, Int.reduceEq, ne_eq, not_false_eq_true, and_self, AMR, XH, F173_T97, hk, hr, c1, rp, stc_sk, e2, w1, in_d, i1, ix0 l1]
  refine W_draw [(true, 0), (true, 1), (true, 2), (true, 3), (true, 4), (true, 5), (true, 6), (true, 7), (true, 8), (true, 9), (true, 10), (true, 11), (true, 12), (true, 13)] (by kernel_rfl) ?_
  simp (maxDischargeDepth := 30) only [AMS, AMH, ↓reduceIte, Nat.reduceLT, Nat.reduceEqDiff, Nat.reduceAdd, Nat.reduceMul, reduceCtorEq, decide_true, decide_false, Nat.reduceLeDiff, Int.reduceNe, Int.reduceEq, ne_eq, not_false_eq_true, and_self, AMR, XH, F173_T97, hk, hr, c1, rp, stc_sk, e2, ix0 l1, hi, hrs, c2, one_d, Nat.mul_one]
  exact ⟨⟨_, rfl, LS.of_row (xs := [x]) ints_len (rx_at0 rfl)⟩, ex_fr _ (Fr.refl hk)⟩
set_option maxRecDepth 10000 in
theorem askWord_d {N : Nat} {h : Heap} {p : Nat} {σ : Sta} {v : StV} (hk : HOK h) (h0 : 0 < h.next) (q : IsState N h p σ v) {w : Value} {l : List Int} (hw : LS h w l ints 1) (G : σ.S.tints.Good) (M : MixGood σ.S.tints l) :
    CW CC 174 [.pointer (some ⟨p, 0, none⟩), w] h fun r h' => (∃ u, r = .tuple ⟨[u, .int .i64 0]⟩ ∧ LS h' u [wordP σ.S.tints l] ints 1) ∧ Fr h h' := by
  have rp : rowAt h p = some (σ.cells v) := by unfold rowAt; rw [q.row]; rfl
  obtain ⟨pw, cw, rfl⟩ := hw.len
  refine CW_in Tryz.f174 (by kernel_rfl) (by kernel_rfl) rfl rfl ?_
  simp only [Tryz.f174]
  simp (maxDischargeDepth := 30) only [AMS, AMH, ↓reduceIte, Nat.reduceLT, Nat.reduceEqDiff, Nat.reduceAdd, Nat.reduceMul, reduceCtorEq, decide_true, decide_false, Nat.reduceLeDiff, Int.reduceNe, Int.reduceEq, ne_eq, not_false_eq_true, and_self, XH, bs_22, fp_257_0, fp_49_4, ix_22, ld_43, part_3, size_22, size_3, und_22, zero_22, hk, rp, stc_ti]
  refine W_call (Word_t hk h0 q.suite.ti.1 hw G M) ?_
  rintro _ h1 ⟨rfl, f1⟩
  simp (maxDischargeDepth := 30) only [AMS, AMH, ↓reduceIte, Nat.reduceLT, Nat.reduceEqDiff, Nat.reduceAdd, Nat.reduceMul, reduceCtorEq, decide_true, decide_false, Nat.reduceLeDiff, Int.reduceNe, Int.reduceEq, ne_eq, not_false_eq_true, and_self, XH, bs_22, fp_257_0, fp_49_4, ix_22, ld_43, part_3, size_22, size_3, und_22, zero_22, f1.ok, one_d]
  exact ⟨⟨_, rfl, LS.of_row (xs := [wordP σ.S.tints l]) ints_len (rx_at0 rfl)⟩, ex_fr _ f1⟩
theorem isAsked_7 {h : Heap} (hk : HOK h) {w : Value} {l : List Int} (hw : LS h w l ints 1) (hl : 1 ≤ l.length ∧ l.length ≤ 1) : CW CC 77 [.agg ⟨[.int .i64 7, w]⟩] h fun r h' => r = .bool true ∧ Fr h h' := by
  obtain ⟨pw, cw, rfl⟩ := hw.len
  have i1 : inP (l.length : Int) 1 1 = true := decide_eq_true (by omega)
  refine CW_in Tryz.f77 (by kernel_rfl) (by kernel_rfl) rfl rfl ?_
  simp only [Tryz.f77]
  simp (maxDischargeDepth := 30) only [AMS, AMH, ↓reduceIte, Nat.reduceLT, Nat.reduceEqDiff, Nat.reduceAdd, Nat.reduceMul, reduceCtorEq, decide_true, decide_false, Nat.reduceLeDiff, Int.reduceNe, Int.reduceEq, ne_eq, not_false_eq_true, and_self, XH, fp_92_0, fp_92_1, ld_22, ld_69, len_22, hk, show ((7 : Int) == 7) = true from rfl, show ((7 : Int) == 9) = false from rfl, show ((7 : Int) == 13) = false from rfl, show ((7 : Int) == 14) = false from rfl, show ((7 : Int) == 6) = false from rfl, show ((7 : Int) == 15) = false from rfl, show ((7 : Int) == 8) = false from rfl, show decide ((7 : Int) ≥ 1) = true from rfl, show decide ((7 : Int) ≤ 16) = true from rfl, in_d, i1]
  exact ⟨trivial, ex_fr _ (Fr.refl hk)⟩
set_option maxRecDepth 10000 in
set_option maxHeartbeats 2000000 in
theorem ask_7 {N d k : Nat} {h : Heap} (hk : HOK h) (hp : 0 < h.next) {S : SuiteD} {l : List Int} {w : DeskV} (D : IsDesk N h d S (List.replicate k ⟨5, l⟩) w) (q : MixIn S l) (sm : S.Small) (ex1 : S.coats = exD.coats) (ex2 : S.bench = exD.bench) (ho : S.prices.offs.length ≤ 4) (hkn : k ≤ 24) {v : Value} {nums : List Int} (hv : LS h v nums ints 1) (hnl : 1 ≤ nums.length ∧ nums.length ≤ 1) {out : List Int} (hout : out.length ≤ 1000)
    (hF : ∀ M h1 p sv u, HOK h1 → 0 < h1.next → IsState M h1 p (mixT S l k) sv → LS h1 u nums ints 1 → CW CC 173 [.pointer (some ⟨p, 0, none⟩), u] h1 fun r h' => (∃ u, r = .tuple ⟨[u, .int .i64 0]⟩ ∧ LS h' u out ints 1) ∧ Fr h1 h') :
    CW CC 26 [.pointer (some ⟨d, 0, none⟩), .agg ⟨[.int .i64 7, v]⟩] h fun r h' => (∃ u, r = .tuple ⟨[u, .int .i64 0]⟩ ∧ LS h' u out ints 1) ∧ Fr h h' := by
  have hl := q.n
  have len : w.evs.length = k := by rw [D.nums.1]; simp
  obtain ⟨pv, cv, rfl⟩ := hv.len
  refine CW_in Tryz.f26 (by kernel_rfl) (by kernel_rfl) rfl rfl ?_
  simp only [Tryz.f26]
  have f1 := ex_fr [.row [.int .i64 7, .slice pv nums.length cv] 0 true] (Fr.refl hk)
  have g1 : rowAt (h.ex [.row [.int .i64 7, .slice pv nums.length cv] 0 true]) h.next = some [.int .i64 7, .slice pv nums.length cv] := rx_at0 rfl
  simp (maxDischargeDepth := 30) only [AMS, AMH, ↓reduceIte, Nat.reduceLT, Nat.reduceEqDiff, Nat.reduceAdd, Nat.reduceMul, reduceCtorEq, decide_true, decide_false, Nat.reduceLeDiff, Int.reduceNe, Int.reduceEq, ne_eq, not_false_eq_true, and_self, XH, F26_T97, hk, is_d f1.ok (D.fr hk f1)]
  refine W_call (isAsked_7 f1.ok (hv.fr hk f1) hnl) ?_
  rintro _ h2 ⟨rfl, f2⟩
  have f02 := f1.trans f2
  have r2 := f2.row' f1.ok g1
  simp (maxDischargeDepth := 30) only [AMS, AMH, ↓reduceIte, Nat.reduceLT, Nat.reduceEqDiff, Nat.reduceAdd, Nat.reduceMul, reduceCtorEq, decide_true, decide_false, Nat.reduceLeDiff, Int.reduceNe, Int.reduceEq, ne_eq, not_false_eq_true, and_self, XH, F26_T97, f2.ok]
  refine W_draw [(true, 1), (true, 2), (true, 3), (true, 5), (true, 7), (true, 8), (true, 0), (false, 2), (false, 8), (true, 4), (true, 6), (false, 2), (false, 8), (true, 9), (false, 2), (true, 10), (true, 11), (true, 12), (true, 13), (true, 14), (true, 15)] (by kernel_rfl) ?_
  simp (maxDischargeDepth := 30) only [AMS, AMH, ↓reduceIte, Nat.reduceLT, Nat.reduceEqDiff, Nat.reduceAdd, Nat.reduceMul, reduceCtorEq, decide_true, decide_false, Nat.reduceLeDiff, Int.reduceNe, Int.reduceEq, ne_eq, not_false_eq_true, and_self, AMR, XH, F26_T97, f2.ok, r2]
  refine W_callP (topics_d f2.ok) ?_
  rintro _ h3 ⟨rfl, f3⟩
  have f03 := f02.trans f3
  have r3 := f3.row' f2.ok r2
  have n3 := f03.next
  have D3 := D.fr hk f03
  have w1 : IntKind.i64.wrap ((7 : Int) - 1) = 6 := rfl
  have sf : ∀ f : FuncId, sameV (.func (.func f) ⟨[]⟩ ⟨[]⟩) (.func (.func f) ⟨[]⟩ ⟨[]⟩) = true := fun f => sameV_func rfl rfl
  simp (maxDischargeDepth := 30) only [AMS, AMH, ↓reduceIte, Nat.reduceLT, Nat.reduceEqDiff, Nat.reduceAdd, Nat.reduceMul, reduceCtorEq, decide_true, decide_false, Nat.reduceLeDiff, Int.reduceNe, Int.reduceEq, ne_eq, not_false_eq_true, and_self, AMR, XH, F26_T97, f3.ok, r3, w1, sf]
  refine W_callP (stands_d f3.ok (by omega) D3 sm ex1 ex2 ho (by omega) (fun e he => by
    obtain ⟨j, hj⟩ := List.mem_iff_getElem?.1 he
    obtain ⟨e', he', hu⟩ := D.nums.get' hj
    have : e' = ⟨5, l⟩ := (List.mem_replicate.1 (List.mem_of_getElem? he')).2
    subst this
    have : e.kind = 5 := hu.1
    omega) (mixT0 S l) (fun i => upto_succ i) (mix_does q f3.ok D3.nums (by omega))) ?_
  rintro _ h4 ⟨⟨p, sv, rfl, st⟩, f4⟩
  rw [len] at st
  have f04 := f03.trans f4
  have r4 := f4.row' f3.ok r3
  have n4 := f04.next
  simp (maxDischargeDepth := 30) only [AMS, AMH, ↓reduceIte, Nat.reduceLT, Nat.reduceEqDiff, Nat.reduceAdd, Nat.reduceMul, reduceCtorEq, decide_true, decide_false, Nat.reduceLeDiff, Int.reduceNe, Int.reduceEq, ne_eq, not_false_eq_true, and_self, AMR, XH, F26_T97, f4.ok, r4, w1, sf]
  refine W_callP (clone_ints.clone ints_len f4.ok (by omega) (hv.fr hk f04) (fun x _ => ints_all x) (by omega)) ?_
  rintro nv h5 ⟨q5, _, f5⟩
  have r5 := f5.row' f4.ok r4
  have f05 := f04.trans f5
  have n5 := f05.next
  obtain ⟨pn, cn, env⟩ := q5.value
  have ls5 := q5.ls ints_len
  have sn : sameV nv nv = true := by rw [env]; exact same_slice _ _ _
  simp (maxDischargeDepth := 30) only [AMS, AMH, ↓reduceIte, Nat.reduceLT, Nat.reduceEqDiff, Nat.reduceAdd, Nat.reduceMul, reduceCtorEq, decide_true, decide_false, Nat.reduceLeDiff, Int.reduceNe, Int.reduceEq, ne_eq, not_false_eq_true, and_self, AMR, XH, F26_T97, f5.ok, r5, w1, sf, sn, V_func, V_clo, List.append_nil, List.nil_append, List.cons_append]
  refine W_callP (hF _ h5 p sv nv f5.ok (by omega) (st.fr f4.ok f5) ls5) ?_
  rintro _ h6 ⟨⟨u, rfl, lu⟩, f6⟩
  have f06 := f05.trans f6
  have n6 := f06.next
  obtain ⟨pu, cu, rfl⟩ := lu.len
  simp (maxDischargeDepth := 30) only [AMS, AMH, ↓reduceIte, Nat.reduceLT, Nat.reduceEqDiff, Nat.reduceAdd, Nat.reduceMul, reduceCtorEq, decide_true, decide_false, Nat.reduceLeDiff, Int.reduceNe, Int.reduceEq, ne_eq, not_false_eq_true, and_self, AMR, XH, F26_T97, f6.ok, show ((0 : Int) != 0) = false from rfl]
  refine W_call (clone_ints.clone ints_len f6.ok (by omega) lu (fun x _ => ints_all x) (by omega)) ?_
  rintro rv h7 ⟨q7, _, f7⟩
  simp (maxDischargeDepth := 30) only [AMS, AMH, ↓reduceIte, Nat.reduceLT, Nat.reduceEqDiff, Nat.reduceAdd, Nat.reduceMul, reduceCtorEq, decide_true, decide_false, Nat.reduceLeDiff, Int.reduceNe, Int.reduceEq, ne_eq, not_false_eq_true, and_self, AMR, XH, F26_T97, f7.ok]
  exact ⟨⟨rv, rfl, q7.ls ints_len⟩, f06.trans f7⟩
theorem isAsked_8 {h : Heap} (hk : HOK h) {w : Value} {l : List Int} (hw : LS h w l ints 1) (hl : 1 ≤ l.length ∧ l.length ≤ 4) : CW CC 77 [.agg ⟨[.int .i64 8, w]⟩] h fun r h' => r = .bool true ∧ Fr h h' := by
  obtain ⟨pw, cw, rfl⟩ := hw.len
  have i1 : inP (l.length : Int) 1 4 = true := decide_eq_true (by omega)
  refine CW_in Tryz.f77 (by kernel_rfl) (by kernel_rfl) rfl rfl ?_
  simp only [Tryz.f77]
  simp (maxDischargeDepth := 30) only [AMS, AMH, ↓reduceIte, Nat.reduceLT, Nat.reduceEqDiff, Nat.reduceAdd, Nat.reduceMul, reduceCtorEq, decide_true, decide_false, Nat.reduceLeDiff, Int.reduceNe, Int.reduceEq, ne_eq, not_false_eq_true, and_self, XH, fp_92_0, fp_92_1, ld_22, ld_69, len_22, hk, show ((8 : Int) == 7) = false from rfl, show ((8 : Int) == 9) = false from rfl, show ((8 : Int) == 13) = false from rfl, show ((8 : Int) == 14) = false from rfl, show ((8 : Int) == 6) = false from rfl, show ((8 : Int) == 15) = false from rfl, show ((8 : Int) == 8) = true from rfl, show decide ((8 : Int) ≥ 1) = true from rfl, show decide ((8 : Int) ≤ 16) = true from rfl, in_d, i1]
  exact ⟨trivial, ex_fr _ (Fr.refl hk)⟩
set_option maxRecDepth 10000 in
set_option maxHeartbeats 2000000 in
theorem ask_8 {N d k : Nat} {h : Heap} (hk : HOK h) (hp : 0 < h.next) {S : SuiteD} {l : List Int} {w : DeskV} (D : IsDesk N h d S (List.replicate k ⟨5, l⟩) w) (q : MixIn S l) (sm : S.Small) (ex1 : S.coats = exD.coats) (ex2 : S.bench = exD.bench) (ho : S.prices.offs.length ≤ 4) (hkn : k ≤ 24) {v : Value} {nums : List Int} (hv : LS h v nums ints 1) (hnl : 1 ≤ nums.length ∧ nums.length ≤ 4) {out : List Int} (hout : out.length ≤ 1000)
    (hF : ∀ M h1 p sv u, HOK h1 → 0 < h1.next → IsState M h1 p (mixT S l k) sv → LS h1 u nums ints 1 → CW CC 174 [.pointer (some ⟨p, 0, none⟩), u] h1 fun r h' => (∃ u, r = .tuple ⟨[u, .int .i64 0]⟩ ∧ LS h' u out ints 1) ∧ Fr h1 h') :
    CW CC 26 [.pointer (some ⟨d, 0, none⟩), .agg ⟨[.int .i64 8, v]⟩] h fun r h' => (∃ u, r = .tuple ⟨[u, .int .i64 0]⟩ ∧ LS h' u out ints 1) ∧ Fr h h' := by
  have hl := q.n
  have len : w.evs.length = k := by rw [D.nums.1]; simp
  obtain ⟨pv, cv, rfl⟩ := hv.len
  refine CW_in Tryz.f26 (by kernel_rfl) (by kernel_rfl) rfl rfl ?_
  simp only [Tryz.f26]
  have f1 := ex_fr [.row [.int .i64 8, .slice pv nums.length cv] 0 true] (Fr.refl hk)
  have g1 : rowAt (h.ex [.row [.int .i64 8, .slice pv nums.length cv] 0 true]) h.next = some [.int .i64 8, .slice pv nums.length cv] := rx_at0 rfl
  simp (maxDischargeDepth := 30) only [AMS, AMH, ↓reduceIte, Nat.reduceLT, Nat.reduceEqDiff, Nat.reduceAdd, Nat.reduceMul, reduceCtorEq, decide_true, decide_false, Nat.reduceLeDiff, Int.reduceNe, Int.reduceEq, ne_eq, not_false_eq_true, and_self, XH, F26_T97, hk, is_d f1.ok (D.fr hk f1)]
  refine W_call (isAsked_8 f1.ok (hv.fr hk f1) hnl) ?_
  rintro _ h2 ⟨rfl, f2⟩
  have f02 := f1.trans f2
  have r2 := f2.row' f1.ok g1
  simp (maxDischargeDepth := 30) only [AMS, AMH, ↓reduceIte, Nat.reduceLT, Nat.reduceEqDiff, Nat.reduceAdd, Nat.reduceMul, reduceCtorEq, decide_true, decide_false, Nat.reduceLeDiff, Int.reduceNe, Int.reduceEq, ne_eq, not_false_eq_true, and_self, XH, F26_T97, f2.ok]
  refine W_draw [(true, 1), (true, 2), (true, 3), (true, 5), (true, 7), (true, 8), (true, 0), (false, 2), (false, 8), (true, 4), (true, 6), (false, 2), (false, 8), (true, 9), (false, 2), (true, 10), (true, 11), (true, 12), (true, 13), (true, 14), (true, 15)] (by kernel_rfl) ?_
  simp (maxDischargeDepth := 30) only [AMS, AMH, ↓reduceIte, Nat.reduceLT, Nat.reduceEqDiff, Nat.reduceAdd, Nat.reduceMul, reduceCtorEq, decide_true, decide_false, Nat.reduceLeDiff, Int.reduceNe, Int.reduceEq, ne_eq, not_false_eq_true, and_self, AMR, XH, F26_T97, f2.ok, r2]
  refine W_callP (topics_d f2.ok) ?_
  rintro _ h3 ⟨rfl, f3⟩
  have f03 := f02.trans f3
  have r3 := f3.row' f2.ok r2
  have n3 := f03.next
  have D3 := D.fr hk f03
  have w1 : IntKind.i64.wrap ((8 : Int) - 1) = 7 := rfl
  have sf : ∀ f : FuncId, sameV (.func (.func f) ⟨[]⟩ ⟨[]⟩) (.func (.func f) ⟨[]⟩ ⟨[]⟩) = true := fun f => sameV_func rfl rfl
  simp (maxDischargeDepth := 30) only [AMS, AMH, ↓reduceIte, Nat.reduceLT, Nat.reduceEqDiff, Nat.reduceAdd, Nat.reduceMul, reduceCtorEq, decide_true, decide_false, Nat.reduceLeDiff, Int.reduceNe, Int.reduceEq, ne_eq, not_false_eq_true, and_self, AMR, XH, F26_T97, f3.ok, r3, w1, sf]
  refine W_callP (stands_d f3.ok (by omega) D3 sm ex1 ex2 ho (by omega) (fun e he => by
    obtain ⟨j, hj⟩ := List.mem_iff_getElem?.1 he
    obtain ⟨e', he', hu⟩ := D.nums.get' hj
    have : e' = ⟨5, l⟩ := (List.mem_replicate.1 (List.mem_of_getElem? he')).2
    subst this
    have : e.kind = 5 := hu.1
    omega) (mixT0 S l) (fun i => upto_succ i) (mix_does q f3.ok D3.nums (by omega))) ?_
  rintro _ h4 ⟨⟨p, sv, rfl, st⟩, f4⟩
  rw [len] at st
  have f04 := f03.trans f4
  have r4 := f4.row' f3.ok r3
  have n4 := f04.next
  simp (maxDischargeDepth := 30) only [AMS, AMH, ↓reduceIte, Nat.reduceLT, Nat.reduceEqDiff, Nat.reduceAdd, Nat.reduceMul, reduceCtorEq, decide_true, decide_false, Nat.reduceLeDiff, Int.reduceNe, Int.reduceEq, ne_eq, not_false_eq_true, and_self, AMR, XH, F26_T97, f4.ok, r4, w1, sf]
  refine W_callP (clone_ints.clone ints_len f4.ok (by omega) (hv.fr hk f04) (fun x _ => ints_all x) (by omega)) ?_
  rintro nv h5 ⟨q5, _, f5⟩
  have r5 := f5.row' f4.ok r4
  have f05 := f04.trans f5
  have n5 := f05.next
  obtain ⟨pn, cn, env⟩ := q5.value
  have ls5 := q5.ls ints_len
  have sn : sameV nv nv = true := by rw [env]; exact same_slice _ _ _
  simp (maxDischargeDepth := 30) only [AMS, AMH, ↓reduceIte, Nat.reduceLT, Nat.reduceEqDiff, Nat.reduceAdd, Nat.reduceMul, reduceCtorEq, decide_true, decide_false, Nat.reduceLeDiff, Int.reduceNe, Int.reduceEq, ne_eq, not_false_eq_true, and_self, AMR, XH, F26_T97, f5.ok, r5, w1, sf, sn, V_func, V_clo, List.append_nil, List.nil_append, List.cons_append]
  refine W_callP (hF _ h5 p sv nv f5.ok (by omega) (st.fr f4.ok f5) ls5) ?_
  rintro _ h6 ⟨⟨u, rfl, lu⟩, f6⟩
  have f06 := f05.trans f6
  have n6 := f06.next
  obtain ⟨pu, cu, rfl⟩ := lu.len
  simp (maxDischargeDepth := 30) only [AMS, AMH, ↓reduceIte, Nat.reduceLT, Nat.reduceEqDiff, Nat.reduceAdd, Nat.reduceMul, reduceCtorEq, decide_true, decide_false, Nat.reduceLeDiff, Int.reduceNe, Int.reduceEq, ne_eq, not_false_eq_true, and_self, AMR, XH, F26_T97, f6.ok, show ((0 : Int) != 0) = false from rfl]
  refine W_call (clone_ints.clone ints_len f6.ok (by omega) lu (fun x _ => ints_all x) (by omega)) ?_
  rintro rv h7 ⟨q7, _, f7⟩
  simp (maxDischargeDepth := 30) only [AMS, AMH, ↓reduceIte, Nat.reduceLT, Nat.reduceEqDiff, Nat.reduceAdd, Nat.reduceMul, reduceCtorEq, decide_true, decide_false, Nat.reduceLeDiff, Int.reduceNe, Int.reduceEq, ne_eq, not_false_eq_true, and_self, AMR, XH, F26_T97, f7.ok]
  exact ⟨⟨rv, rfl, q7.ls ints_len⟩, f06.trans f7⟩
end Go.Am
