/- Parts 52, 53 of the abstract machine over this program, joined: what each part says stands at its head. -/
import Derived.Test.YtfnkjclplfhjcaaGreatDoorJ48
set_option linter.unusedSimpArgs false
set_option linter.unusedVariables false
/- The abstract machine, part 52: contracts: the price of a quantity, and its memory. -/
namespace Go.Am
open Go Go.Proofs

section
variable (k : IntKind) (n : Int) (b : Bool) (s : ByteArray) (p : Option Addr) (m c : Nat) (r : Option Nat) (l : List Value)
theorem same_int : sameV (.int k n) (.int k n) = true := sameV_cell rfl
theorem same_bool : sameV (.bool b) (.bool b) = true := sameV_cell rfl
theorem same_str : sameV (.string s) (.string s) = true := sameV_cell rfl
theorem same_slice : sameV (.slice p m c) (.slice p m c) = true := sameV_cell rfl
theorem same_ptr : sameV (.pointer p) (.pointer p) = true := sameV_cell rfl
theorem same_map : sameV (.map r) (.map r) = true := sameV_cell rfl
theorem self_int : selfC (.int k n) = true := rfl
theorem self_bool : selfC (.bool b) = true := rfl
theorem self_str : selfC (.string s) = true := rfl
theorem self_slice : selfC (.slice p m c) = true := rfl
theorem self_ptr : selfC (.pointer p) = true := rfl
theorem self_map : selfC (.map r) = true := rfl
theorem all_c (v : Value) : (v :: l).all selfC = (selfC v && l.all selfC) := rfl
theorem all_n : ([] : List Value).all selfC = true := rfl
theorem same_agg (h : l.all selfC = true) : sameV (.agg ⟨l⟩) (.agg ⟨l⟩) = true := sameV_agg h
theorem and_tt : (true && true) = true := rfl
end
theorem AMR : type_of% (And.intro @same_int <| And.intro @same_bool <| And.intro @same_str <| And.intro @same_slice <| And.intro @same_ptr <| And.intro @same_map <| And.intro @self_int <| And.intro @self_bool <| And.intro @self_str <| And.intro @self_slice <| And.intro @self_ptr <| And.intro @self_map <| And.intro @all_c <| And.intro @all_n <| And.intro @same_agg <| And.intro @and_tt <| And.intro @sameO_row @sameO_map) := And.intro @same_int <| And.intro @same_bool <| And.intro @same_str <| And.intro @same_slice <| And.intro @same_ptr <| And.intro @same_map <| And.intro @self_int <| And.intro @self_bool <| And.intro @self_str <| And.intro @self_slice <| And.intro @self_ptr <| And.intro @self_map <| And.intro @all_c <| And.intro @all_n <| And.intro @same_agg <| And.intro @and_tt <| And.intro @sameO_row @sameO_map

/-- rows are as they were -/
structure RK (h h' : Heap) : Prop where
  ok : HOK h'
  next : h.next ≤ h'.next
  row : ∀ i l s o, h.get i = some (.row l s o) → h'.get i = some (.row l s o)
theorem Fr.rk {h h' : Heap} (f : Fr h h') (hk : HOK h) : RK h h' := ⟨f.ok, f.next, fun i l s o hr => f.get' hk hr⟩
theorem RK.trans {a b c : Heap} (h : RK a b) (h' : RK b c) : RK a c := ⟨h'.ok, Nat.le_trans h.next h'.next, fun i l s o hr => h'.row i l s o (h.row i l s o hr)⟩
theorem RK.refl {h : Heap} (hk : HOK h) : RK h h := ⟨hk, Nat.le_refl _, fun _ _ _ _ h => h⟩
theorem RK.rowAt {h h' : Heap} (f : RK h h') {i : Nat} {l : List Value} (hr : rowAt h i = some l) : rowAt h' i = some l := by
  unfold Am.rowAt at hr ⊢
  obtain ⟨o, ho, h1⟩ := obind_eq hr
  cases o <;> simp [rowOf] at h1
  subst h1
  rw [f.row _ _ _ _ ho]; rfl
theorem LS.rk {α : Type} {h h' : Heap} {v : Value} {xs : List α} {f : α → List Value} {s : Nat} (q : LS h v xs f s) (fr : RK h h') : LS h' v xs f s := by
  rcases q with q | ⟨b, o, sp, c, row, h1, h2, h3⟩
  · exact .inl q
  · exact .inr ⟨b, o, sp, c, row, h1, fr.rowAt h2, h3⟩
theorem SL.rk {N : Nat} {h h' : Heap} {v : Value} {l : List Value} {s n : Nat} (q : SL N h v l s n) (f : RK h h') : SL N h' v l s n := by
  rcases q with q | ⟨b, e, h1, h2, h3, h4⟩
  · exact .inl q
  · exact .inr ⟨b, e, h1, h2, f.row _ _ _ _ h3, h4⟩
theorem IsSheet.rk {h h' : Heap} {a b c : Value} {s : Sheet} (q : IsSheet h a b c s) (f : RK h h') : IsSheet h' a b c s := ⟨q.offs.rk f, q.boards.rk f, q.tars.rk f⟩
theorem IsBill.rk {h h' : Heap} {v : Value} {s : Sheet} {hs : List Int} {m : Nat} (q : IsBill h v s hs m) (f : RK h h') : IsBill h' v s hs m := by
  obtain ⟨a, b, c, d, e, q1, q2⟩ := q.ex
  exact ⟨a, b, c, d, e, q1.rk f, q2.rk f⟩

def price1 (t : Tar) (q : Int) : Int := rnd (t.rule - 1) (q * t.coins) t.units
def amount (t : Tar) (q : Int) : List Value := [.int .i64 t.kind, .int .i64 t.coins, .int .i64 t.units, .int .i64 t.rule, .bool t.each, .int .i64 q]
/-- the prices that a bill remembers are prices -/
def Memo (es : List MapEntry) : Prop := ∀ e ∈ es, ∃ t q, e.key = .agg ⟨amount t q⟩ ∧ e.val = .int .i64 (price1 t q)
def HasMap (h : Heap) (m : Nat) : Prop := ∃ es c, h.get m = some (.map es c) ∧ Memo es

/-- all but one map is as it was; that one still remembers prices -/
structure FrM (m : Nat) (h h' : Heap) : Prop where
  ok : HOK h'
  next : h.next ≤ h'.next
  get : ∀ i, i < h.next → i ≠ m → h'.get i = h.get i
  map : HasMap h' m
theorem HasMap.lt {h : Heap} {m : Nat} (hk : HOK h) (q : HasMap h m) : m < h.next := by
  obtain ⟨es, c, e, _⟩ := q; exact get_lt hk e
theorem HasMap.fr {h h' : Heap} {m : Nat} (q : HasMap h m) (hk : HOK h) (f : Fr h h') : HasMap h' m := by
  obtain ⟨es, c, e, q⟩ := q; exact ⟨es, c, f.get' hk e, q⟩
theorem Fr.frM {h h' : Heap} {m : Nat} (f : Fr h h') (hk : HOK h) (q : HasMap h m) : FrM m h h' := ⟨f.ok, f.next, fun i hi _ => f.get i hi, q.fr hk f⟩
theorem FrM.trans {m : Nat} {a b c : Heap} (h : FrM m a b) (h' : FrM m b c) : FrM m a c := ⟨h'.ok, Nat.le_trans h.next h'.next, fun i hi hm => (h'.get i (Nat.lt_of_lt_of_le hi h.next) hm).trans (h.get i hi hm), h'.map⟩
theorem FrM.fr {m : Nat} {a b c : Heap} (h : Fr a b) (hm : a.next ≤ m) (h' : FrM m b c) : Fr a c := ⟨h'.ok, Nat.le_trans h.next h'.next, fun i hi => (h'.get i (Nat.lt_of_lt_of_le hi h.next) (by omega)).trans (h.get i hi)⟩
theorem FrM.rk {m : Nat} {h h' : Heap} (f : FrM m h h') (hk : HOK h) (q : HasMap h m) : RK h h' := by
  refine ⟨f.ok, f.next, fun i l s o hr => ?_⟩
  obtain ⟨es, c, e, _⟩ := q
  rw [f.get i (get_lt hk hr) (by rintro rfl; rw [e] at hr; simp at hr)]
  exact hr

theorem cellsEq_int (k : IntKind) (a b : Int) (l r : List Value) : cellsEq (.int k a :: l) (.int k b :: r) = if a = b then cellsEq l r else some false := by
  show (match cellEq (.int k a) (.int k b) with | some true => cellsEq l r | some false => some false | none => none) = _
  simp only [cellEq, if_true]
  by_cases h : a = b
  · subst h; simp
  · have : (a == b) = false := by simpa using h
    rw [this, if_neg h]
theorem cellsEq_bool (a b : Bool) (l r : List Value) : cellsEq (.bool a :: l) (.bool b :: r) = if a = b then cellsEq l r else some false := by
  show (match cellEq (.bool a) (.bool b) with | some true => cellsEq l r | some false => some false | none => none) = _
  simp only [cellEq]
  by_cases h : a = b
  · subst h; simp
  · have : (a == b) = false := by simpa using h
    rw [this, if_neg h]
theorem cellsEq_nil : cellsEq [] [] = some true := rfl
noncomputable instance Tar.dec : DecidableEq Tar := fun _ _ => Classical.propDecidable _
theorem amount_eq (t t' : Tar) (q q' : Int) : cellsEq (amount t q) (amount t' q') = some (decide (t = t' ∧ q = q')) := by
  obtain ⟨k, c, u, r, e⟩ := t
  obtain ⟨k', c', u', r', e'⟩ := t'
  simp only [amount, cellsEq_int, cellsEq_bool, cellsEq_nil, Tar.mk.injEq]
  repeat' split
  all_goals simp [*]

theorem find_memo (t : Tar) (q : Int) : ∀ (es : List MapEntry) (i : Nat), Memo es → aFind (.agg ⟨amount t q⟩) es i = some none ∨ ∃ j, aFind (.agg ⟨amount t q⟩) es i = some (some (j, .int .i64 (price1 t q)))
  | [], i, _ => .inl rfl
  | e :: es, i, hm => by
    obtain ⟨t', q', h1, h2⟩ := hm e List.mem_cons_self
    have ih := find_memo t q es (i + 1) fun x hx => hm x (List.mem_cons_of_mem _ hx)
    have hk : keyEq (.agg ⟨amount t q⟩) e.key = some (decide (t = t' ∧ q = q')) := by
      rw [h1]
      show guardB (likeAll (amount t q) (amount t' q')) (cellsEq (amount t q) (amount t' q')) = _
      have : likeAll (amount t q) (amount t' q') = true := rfl
      rw [this, guardB_true, amount_eq]
    rw [aFind_cons, hk]
    by_cases hc : t = t' ∧ q = q'
    · obtain ⟨rfl, rfl⟩ := hc
      right
      refine ⟨i, ?_⟩
      rw [decide_eq_true (by simp), h2]
    · rw [decide_eq_false hc]
      exact ih

theorem fits_154 (t : Tar) (q : Int) : keyFits CC 154 (.agg ⟨amount t q⟩) = true := by kernel_rfl
theorem lookup_of {C : Ctx} {t k e : TypeId} {z key : Value} {h : Heap} {m : Nat} {es : List MapEntry} {c : Nat} {ok : Bool} (hu : C.und t = some (.map k e)) (hf : keyFits C k key = true) (hz : C.zero e = some z) (hm : h.get m = some (.map es c)) :
    aLookup C t (.map (some m)) key ok h = obind (aFind key es 0) (found z ok) := by
  unfold aLookup; rw [hu]; simp only [obind_some, mapTypes, hf, guardB_true, hz, entriesOf, hm, mapOf]
theorem update_of {C : Ctx} {t k e : TypeId} {key v : Value} {h : Heap} {m : Nat} {es : List MapEntry} {c : Nat} (hu : C.und t = some (.map k e)) (hf : keyFits C k key = true) (hm : h.get m = some (.map es c)) (hn : aFind key es 0 = some none) :
    aMapUpdate C t (.map (some m)) key v h = some (h.set m (.map (es ++ [{ key := key, val := v, born := c }]) (c + 1))) := by
  unfold aMapUpdate; rw [hu]; simp only [obind_some, mapTypes, hf, guardB_true, mapAt, hm, mapOf, hn, putEntry]
theorem lookup_92 {h : Heap} {m : Nat} {es : List MapEntry} {c : Nat} (hm : h.get m = some (.map es c)) (t : Tar) (q : Int) : aLookup CC 92 (.map (some m)) (.agg ⟨amount t q⟩) true h = obind (aFind (.agg ⟨amount t q⟩) es 0) (found (.int .i64 0) true) :=
  lookup_of und_92 (fits_154 t q) zero_3 hm
theorem update_92 {h : Heap} {m : Nat} {es : List MapEntry} {c : Nat} (hm : h.get m = some (.map es c)) (t : Tar) (q : Int) (v : Value) (hf : aFind (.agg ⟨amount t q⟩) es 0 = some none) :
    aMapUpdate CC 92 (.map (some m)) (.agg ⟨amount t q⟩) v h = some (h.set m (.map (es ++ [{ key := .agg ⟨amount t q⟩, val := v, born := c }]) (c + 1))) :=
  update_of und_92 (fits_154 t q) hm hf
theorem found_hit (z v : Value) (j : Nat) : found z true (some (j, v)) = some (.tuple ⟨[v, .bool true]⟩) := rfl
theorem found_miss (z : Value) : found z true none = some (.tuple ⟨[z, .bool false]⟩) := rfl

theorem Memo.snoc {es : List MapEntry} (hm : Memo es) (t : Tar) (q : Int) (c : Nat) : Memo (es ++ [{ key := .agg ⟨amount t q⟩, val := .int .i64 (price1 t q), born := c }]) := by
  intro e he
  rcases List.mem_append.1 he with h | h
  · exact hm e h
  · simp at h; subst h; exact ⟨t, q, rfl, rfl⟩

theorem Tar.ok_at {t : Tar} (h : t.ok = true) : 1 ≤ t.kind ∧ t.kind ≤ 4 ∧ 1 ≤ t.rule ∧ t.rule ≤ 4 ∧ 0 ≤ t.coins ∧ t.coins ≤ 500 ∧ 1 ≤ t.units ∧ t.units ≤ 12 := of_decide_eq_true h

set_option maxRecDepth 10000 in
set_option maxHeartbeats 1000000 in
theorem price_106 {h : Heap} (hk : HOK h) {v : Value} {s : Sheet} {hs : List Int} {m : Nat} {t : Tar} {q : Int} (hv : IsBill h v s hs m) (hm : HasMap h m) (ht : t.ok = true) (hq : 0 ≤ q) (hq' : q ≤ 1000000) :
    CW CC 106 [v, .agg ⟨t.cells⟩, .int .i64 q] h fun r h' => r = .int .i64 (price1 t q) ∧ FrM m h h' := by
  obtain ⟨a, b, c, d, rfl, hsh, hh⟩ := hv.ex
  obtain ⟨p1, c1, rfl, _⟩ := hsh.offs.open
  obtain ⟨p2, c2, rfl, _⟩ := hsh.boards.open
  obtain ⟨p3, c3, rfl, _⟩ := hsh.tars.open
  obtain ⟨p4, c4, rfl, _⟩ := hh.open
  have hml := hm.lt hk
  obtain ⟨es, cl, em, hmemo⟩ := hm
  have tk := Tar.ok_at ht
  have hq2 : 0 ≤ q * t.coins := Int.mul_nonneg hq (by omega)
  have hq3 : q * t.coins ≤ 1000000 * 500 := Int.mul_le_mul hq' (by omega) (by omega) (by omega)
  have hf := find_memo t q es 0 hmemo
  have hl := fun h' (e : h'.get m = some (.map es cl)) => lookup_92 (h := h') e t q
  have hu := fun h' (e : h'.get m = some (.map es cl)) => update_92 (h := h') e t q (.int .i64 (price1 t q))
  have hsn := hmemo.snoc t q cl
  have hpr : price1 t q = rnd (t.rule - 1) (q * t.coins) t.units := rfl
  generalize hP : price1 t q = P at hf hu hsn hpr
  obtain ⟨kd, co, un, ru, ea⟩ := t
  simp only [amount] at hf hl hu hsn
  simp only at tk hq2 hq3 hpr
  refine CW_in Tryz.f106 (by kernel_rfl) (by kernel_rfl) rfl rfl ?_
  simp only [Tryz.f106, Tar.cells]
  have fa : ∀ x y z w, Fr h ((((h.alloc x).alloc y).alloc z).set (h.next + 1 + 1) w) := fun x y z w => ((((Fr.refl hk).alloc x).alloc y).alloc z).set (by omega) (by simp) w
  have hm0 : HasMap h m := ⟨es, cl, em, hmemo⟩
  rcases hf with hf | ⟨j, hf⟩
  · -- a new amount
    simp (maxDischargeDepth := 30) only [AMS, AMH, ↓reduceIte, Nat.reduceLT, Nat.reduceEqDiff, Nat.reduceAdd, Nat.reduceMul, reduceCtorEq, decide_true, decide_false, Nat.reduceLeDiff, Int.reduceNe, Int.reduceEq, ne_eq, not_false_eq_true, and_self, bld_154, bld_156, fld_154_0, fld_154_1, fld_156_0, fld_156_1, fp_41_1, fp_41_2, fp_41_3, fp_94_2, ld_154, ld_3, ld_39, ld_41, ld_92, size_154, size_156, size_92, sp_154_0, sp_154_1, sp_156_0, sp_156_1, und_92, zero_154, zero_156, zero_92, hk, hml, em, hl, hf, found_miss]
    refine W_draw [(true, 0), (true, 1), (true, 2), (true, 3), (true, 4), (true, 5), (true, 6), (true, 7), (true, 8), (true, 9), (false, 2), (false, 5), (true, 10), (true, 11)] (by kernel_rfl) ?_
    simp (maxDischargeDepth := 30) only [AMS, AMH, ↓reduceIte, Nat.reduceLT, Nat.reduceEqDiff, Nat.reduceAdd, Nat.reduceMul, reduceCtorEq, decide_true, decide_false, Nat.reduceLeDiff, Int.reduceNe, Int.reduceEq, ne_eq, not_false_eq_true, and_self, AMR, bld_154, bld_156, fld_154_0, fld_154_1, fld_156_0, fld_156_1, fp_41_1, fp_41_2, fp_41_3, fp_94_2, ld_154, ld_3, ld_39, ld_41, ld_92, size_154, size_156, size_92, sp_154_0, sp_154_1, sp_156_0, sp_156_1, und_92, zero_154, zero_156, zero_92, hk, place_137 (r := ru) tk.2.2.1 tk.2.2.2.1, wrap64 (n := q * co) (by omega) (by omega)]
    refine W_callP (rounded_136 hq2 (by omega) tk.2.2.2.2.2.2.1 (by omega) (by omega) (by omega) (fa _ _ _ _).ok) ?_
    rintro _ h2 ⟨rfl, fr2⟩
    have f2 := (fa _ _ _ _).trans fr2
    have em2 := f2.get' hk em
    have hml2 : m < h2.next := get_lt f2.ok em2
    have rb : rowAt h2 h.next = some [.slice p1 s.offs.length c1, .slice p2 s.boards.length c2, .slice p3 s.tars.length c3, .slice p4 hs.length c4, .map (some m)] := by
      refine fr2.row' (fa _ _ _ _).ok ?_
      rw [rowAt_set_lt _ (by omega), rowAt_old _ (by simp; omega), rowAt_old _ (by simp), rowAt_new]
    have rk : rowAt h2 (h.next + 1 + 1) = some [.int .i64 kd, .int .i64 co, .int .i64 un, .int .i64 ru, .bool ea, .int .i64 q] := by
      refine fr2.row' (fa _ _ _ _).ok ?_
      rw [rowAt_set_self]
    rw [← hpr]
    simp (maxDischargeDepth := 30) only [AMS, AMH, ↓reduceIte, Nat.reduceLT, Nat.reduceEqDiff, Nat.reduceAdd, Nat.reduceMul, reduceCtorEq, decide_true, decide_false, Nat.reduceLeDiff, Int.reduceNe, Int.reduceEq, ne_eq, not_false_eq_true, and_self, AMR, bld_154, bld_156, fld_154_0, fld_154_1, fld_156_0, fld_156_1, fp_41_1, fp_41_2, fp_41_3, fp_94_2, ld_154, ld_3, ld_39, ld_41, ld_92, size_154, size_156, size_92, sp_154_0, sp_154_1, sp_156_0, sp_156_1, und_92, zero_154, zero_156, zero_92, f2.ok, rb, rk, hu h2 em2 hf]
    refine ⟨trivial, f2.ok.set hml2 _, by simpa using f2.next, fun i hi hne => ?_, _, _, Heap.get_set_self _ _ _, hsn⟩
    rw [Heap.get_set_ne _ _ hne]; exact f2.get i hi
  · -- one that was met
    simp (maxDischargeDepth := 30) only [AMS, AMH, ↓reduceIte, Nat.reduceLT, Nat.reduceEqDiff, Nat.reduceAdd, Nat.reduceMul, reduceCtorEq, decide_true, decide_false, Nat.reduceLeDiff, Int.reduceNe, Int.reduceEq, ne_eq, not_false_eq_true, and_self, bld_154, bld_156, fld_154_0, fld_154_1, fld_156_0, fld_156_1, fp_41_1, fp_41_2, fp_41_3, fp_94_2, ld_154, ld_3, ld_39, ld_41, ld_92, size_154, size_156, size_92, sp_154_0, sp_154_1, sp_156_0, sp_156_1, und_92, zero_154, zero_156, zero_92, hk, hml, em, hl, hf, found_hit]
    exact ⟨trivial, (fa _ _ _ _).frM hk hm0⟩
end Go.Am

/- The abstract machine, part 53: contracts: what is paid. -/
namespace Go.Am
open Go Go.Proofs

theorem SL.weak {N N' : Nat} {h : Heap} {v : Value} {l : List Value} {s n : Nat} (q : SL N h v l s n) (hn : N' ≤ N) : SL N' h v l s n := by
  rcases q with q | ⟨b, e, h1, h2, h3⟩
  · exact .inl q
  · exact .inr ⟨b, e, h1, by omega, h3⟩
theorem append_raw {C : Ctx} {t u : TypeId} {ts : List TypeId} (ht : AppT C t u 1) {N : Nat} {h1 : Heap} {out v : Value} {l : List Value} {n : Nat} (hk : HOK h1) (hN : N ≤ h1.next) (hp : 0 < h1.next) (q : SL N h1 out l 1 n) (hv : oneC v = true) (hn : n + 1 ≤ 4294967296) :
    ∃ h', aAppend C (t :: u :: ts) out (.slice (some ⟨h1.next, 0, some 1⟩) 1 1) (h1.alloc (.row [v] 1 true)) = some (.slice (some ⟨h1.next + 1, 0, some 1⟩) (n + 1) (n + 1), h') ∧ SL N h' (.slice (some ⟨h1.next + 1, 0, some 1⟩) (n + 1) (n + 1)) (l ++ [v]) 1 (n + 1) ∧ HOK h' ∧ h'.next = h1.next + 2 ∧ ∀ i, i < h1.next → blkOf out ≠ some i → h'.get i = h1.get i := by
  have f : Fr ⟨0, .nil⟩ h1 := ⟨hk, Nat.zero_le _, fun i hi => absurd hi (Nat.not_lt_zero _)⟩
  obtain ⟨h', e, q', f', n', g'⟩ := append_one (ts := ts) ht f hp (q.weak (Nat.zero_le _)) hv hn
  refine ⟨h', e, ?_, f'.ok, n', g'⟩
  rcases q' with ⟨e', _⟩ | ⟨b, e', a1, a2, a3⟩
  · simp at e'
  · refine .inr ⟨b, e', a1, ?_, a3⟩
    simp at e'
    omega

theorem append_frm {m N : Nat} {h2 h3 h5 : Heap} {out : Value} {l : List Value} {n : Nat} (F : FrM m h2 h3) (R : RK h2 h3) (hk2 : HOK h2) (q : SL h2.next h3 out l 1 n) (hm : m < h2.next) (k5 : HOK h5) (n5 : h5.next = h3.next + N) (g5 : ∀ i, i < h3.next → blkOf out ≠ some i → h5.get i = h3.get i) :
    FrM m h2 h5 ∧ RK h2 h5 := by
  have lt : ∀ i, i < h2.next → h5.get i = h3.get i := fun i hi => g5 i (Nat.lt_of_lt_of_le hi F.next) fun hb => by
    have := (q.blk_lt F.ok hb).1; omega
  have nx : h2.next ≤ h5.next := by have := F.next; omega
  refine ⟨⟨k5, nx, fun i hi hne => (lt i hi).trans (F.get i hi hne), ?_⟩, k5, nx, fun i l s o hr => ?_⟩
  · obtain ⟨es, c, e, mm⟩ := F.map
    exact ⟨es, c, by rw [lt m hm]; exact e, mm⟩
  · rw [lt i (get_lt hk2 hr)]; exact R.row _ _ _ _ hr

theorem rnd_b {rule a b : Int} (ha : 0 ≤ a) (hb : 1 ≤ b) : 0 ≤ rnd rule a b ∧ rnd rule a b ≤ 2 * a + b := by
  unfold rnd
  split
  · have := div_b ha hb; unfold rDown; omega
  split
  · have := div_b (a := a + b - 1) (by omega) hb; unfold rUp; omega
  split
  · have := div_b (a := 2 * a + b) (b := 2 * b) (by omega) (by omega); unfold rNear; omega
  · have := div_b (a := 2 * a + b) (b := 2 * b) (by omega) (by omega)
    unfold rEven
    split
    · rename_i hc
      have : 0 ≤ rNear a b ∧ rNear a b ≤ 2 * a + b := this
      have h1 := hc.2
      have : rNear a b ≠ 0 := by intro h0; rw [h0] at h1; simp at h1
      omega
    · exact this
theorem price1_b {t : Tar} {q : Int} (ht : t.ok = true) (hq : 0 ≤ q) (hq' : q ≤ 1000000) : 0 ≤ price1 t q ∧ price1 t q ≤ 1000000012 := by
  have tk := Tar.ok_at ht
  have hq2 : 0 ≤ q * t.coins := Int.mul_nonneg hq (by omega)
  have hq3 : q * t.coins ≤ 1000000 * 500 := Int.mul_le_mul hq' (by omega) (by omega) (by omega)
  have := rnd_b (rule := t.rule - 1) hq2 (b := t.units) (by omega)
  unfold price1; omega

def parts (t : Tar) (bs : List Board) (hs : List Int) : List Int := (qtys t bs hs).map (price1 t)
def paid (t : Tar) (bs : List Board) (hs : List Int) : Int := if t.each then sumI (parts t bs hs) else price1 t (sumI (qtys t bs hs))

set_option maxRecDepth 10000 in
set_option maxHeartbeats 1000000 in
theorem parts_75 {h : Heap} (hk : HOK h) (hp : 0 < h.next) {v : Value} {s : Sheet} {hs : List Int} {m : Nat} {t : Tar} (hv : IsBill h v s hs m) (hm : HasMap h m) (ht : t.ok = true) (hl : hs.length = s.boards.length) (hn : s.boards.length ≤ 1000) (hq : ∀ x ∈ qtys t s.boards hs, 0 ≤ x ∧ x ≤ 1000) :
    CW CC 75 [v, .agg ⟨t.cells⟩] h fun r h' => SL h.next h' r ((parts t s.boards hs).flatMap ints) 1 s.boards.length ∧ FrM m h h' := by
  have tk := Tar.ok_at ht
  have hb := hv
  have hml := hm.lt hk
  have hlen := qtys_len (t := t) hl
  obtain ⟨a, b, c, d, rfl, hsh, hh⟩ := hv.ex
  obtain ⟨p1, c1, rfl, _⟩ := hsh.offs.open
  obtain ⟨p2, c2, rfl, _⟩ := hsh.boards.open
  obtain ⟨p3, c3, rfl, _⟩ := hsh.tars.open
  obtain ⟨p4, c4, rfl, _⟩ := hh.open
  refine CW_in Tryz.f75 (by kernel_rfl) (by kernel_rfl) rfl rfl ?_
  simp only [Tryz.f75]
  have kt : take? t.cells 0 5 = some t.cells := rfl
  have f1 : ∀ x y, Fr h ((h.alloc x).alloc y) := fun x y => ((Fr.refl hk).alloc x).alloc y
  have ra : ∀ y, rowAt ((h.alloc (.row [.slice p1 s.offs.length c1, .slice p2 s.boards.length c2, .slice p3 s.tars.length c3, .slice p4 hs.length c4, .map (some m)] 0 true)).alloc y) h.next = some [.slice p1 s.offs.length c1, .slice p2 s.boards.length c2, .slice p3 s.tars.length c3, .slice p4 hs.length c4, .map (some m)] := fun y => by
    rw [rowAt_old _ (by simp), rowAt_new]
  simp (maxDischargeDepth := 30) only [AMS, AMH, ↓reduceIte, Nat.reduceLT, Nat.reduceEqDiff, Nat.reduceAdd, Nat.reduceMul, reduceCtorEq, decide_true, decide_false, Nat.reduceLeDiff, Int.reduceNe, Int.reduceEq, ne_eq, not_false_eq_true, and_self, bs_22, ix_22, ld_3, ld_41, ld_94, len_22, part_3, size_22, size_3, und_22, zero_22, hk, kt]
  refine W_call (quantities_107 (t := t) (f1 _ _).ok (by simp) (hb.fr hk (f1 _ _)) tk.1 tk.2.1 hl hn) ?_
  rintro qv h2 ⟨sq, fr2⟩
  have f2 := (f1 _ _).trans fr2
  have k2 := f2.ok
  have r2 := fr2.row' (f1 _ _).ok (ra (.row t.cells 0 true))
  have r3 : rowAt h2 (h.next + 1) = some t.cells := fr2.row' (f1 _ _).ok (rowAt_at t.cells 0 true (by simp))
  have hm2 := hm.fr hk f2
  have hml2 := hm2.lt k2
  have lq : LS h2 qv (qtys t s.boards hs) ints 1 := SL.ls ints_len (by rw [hlen]; exact (by simpa using sq))
  have hb2 := hb.fr hk f2
  have n2 : h.next + 2 ≤ h2.next := by have := fr2.next; simp at this; omega
  clear fr2 sq f1 ra
  obtain ⟨pq, cq, rfl, xq⟩ := lq.open
  simp (maxDischargeDepth := 30) only [AMS, AMH, ↓reduceIte, Nat.reduceLT, Nat.reduceEqDiff, Nat.reduceAdd, Nat.reduceMul, reduceCtorEq, decide_true, decide_false, Nat.reduceLeDiff, Int.reduceNe, Int.reduceEq, ne_eq, not_false_eq_true, and_self, bs_22, ix_22, ld_3, ld_41, ld_94, len_22, part_3, size_22, size_3, und_22, zero_22, k2]
  rw [hlen] at lq ⊢
  refine W_loop s.boards.length (fun m' f h' => ∃ i, i ≤ s.boards.length ∧ m' = s.boards.length - i ∧ f 2 = .pointer (some ⟨h.next, 0, none⟩) ∧ f 3 = .pointer (some ⟨h.next + 1, 0, none⟩) ∧ f 11 = .slice pq s.boards.length cq ∧ f 12 = .int .i64 s.boards.length ∧ f 13 = .int .i64 i ∧
      SL h2.next h' (f 5) (((parts t s.boards hs).take i).flatMap ints) 1 i ∧ FrM m h2 h' ∧ RK h2 h')
    ⟨0, by omega, by omega, by simp [upd_at], by simp [upd_at], by simp [upd_at], by simp [upd_at], by simp [upd_at], by simpa [upd_at] using SL.nil h2.next h2 1, (Fr.refl k2).frM k2 hm2, RK.refl k2⟩ ?_
  rintro m' f h' ⟨i, hi, rfl, g2, g3, g11, g12, g13, q5, F, R⟩ ih
  have k' := F.ok
  by_cases hil : i < s.boards.length
  · obtain ⟨x, gx⟩ : ∃ x, (qtys t s.boards hs)[i]? = some x := ⟨_, List.getElem?_eq_getElem (by omega)⟩
    have hx := hq x (List.mem_of_getElem? gx)
    rcases xq with hx' | ⟨bq, oq, spq, rowq, rfl, rrq, xq⟩
    · have := hlen; rw [hx'] at this; simp at this; omega
    have e1 : rowq[oq + i]? = some (.int .i64 x) := by simpa [ints] using (xq _ _ gx).2 0 (by omega)
    have rr' := R.rowAt rrq
    have r2' := R.rowAt r2
    have r3' := R.rowAt r3
    obtain ⟨_, h3, e3, rfl, F3⟩ := price_106 (t := t) (q := x) k' (hb2.rk R) F.map ht hx.1 (by omega)
    have R3 := F3.rk k' F.map
    have F' := F.trans F3
    have R' := R.trans R3
    obtain ⟨h5, e5, q5', k5, n5, g5⟩ := append_raw (ts := []) app_22 (N := h2.next) F3.ok F'.next (by have := F'.next; omega) (q5.rk R3) (v := .int .i64 (price1 t x)) rfl (by omega)
    obtain ⟨F5, R5⟩ := append_frm F' R' k2 (q5.rk R3) hml2 k5 n5 g5
    simp (maxDischargeDepth := 30) only [AMS, AMH, ↓reduceIte, Nat.reduceLT, Nat.reduceEqDiff, Nat.reduceAdd, Nat.reduceMul, reduceCtorEq, decide_true, decide_false, Nat.reduceLeDiff, Int.reduceNe, Int.reduceEq, ne_eq, not_false_eq_true, and_self, bs_22, ix_22, ld_3, ld_41, ld_94, len_22, part_3, size_22, size_3, und_22, zero_22, k', F3.ok, g2, g3, g11, g12, g13, lt_t hil, hil, rr', Nat.mul_one, e1, r2', r3', kt, e3, bs_22 (cells_int _ _), e5, i_next hil hn]
    refine ih (s.boards.length - (i + 1)) _ _ (by omega) ?_
    refine ⟨i + 1, by omega, rfl, by simp [upd_at, g2], by simp [upd_at, g3], by simp [upd_at, g11], by simp [upd_at, g12], by simp [upd_at], ?_, F5, R5⟩
    have : (parts t s.boards hs)[i]? = some (price1 t x) := by simp [parts, gx]
    rw [take_snoc this, List.flatMap_append]
    simpa [upd_at, ints] using q5'
  · have : i = s.boards.length := by omega
    subst this
    simp (maxDischargeDepth := 30) only [AMS, AMH, ↓reduceIte, Nat.reduceLT, Nat.reduceEqDiff, Nat.reduceAdd, Nat.reduceMul, reduceCtorEq, decide_true, decide_false, Nat.reduceLeDiff, Int.reduceNe, Int.reduceEq, ne_eq, not_false_eq_true, and_self, bs_22, ix_22, ld_3, ld_41, ld_94, len_22, part_3, size_22, size_3, und_22, zero_22, k', g2, g3, g11, g12, g13, lt_f]
    refine ⟨?_, (f2.frM hk hm).trans F⟩
    rw [List.take_of_length_le (by simp [parts, hlen])] at q5
    exact q5.weak (by omega)

set_option maxRecDepth 10000 in
set_option maxHeartbeats 1000000 in
theorem paid_73 {h : Heap} (hk : HOK h) (hp : 0 < h.next) {v : Value} {s : Sheet} {hs : List Int} {m : Nat} {t : Tar} (hv : IsBill h v s hs m) (hm : HasMap h m) (ht : t.ok = true) (hl : hs.length = s.boards.length) (hn : s.boards.length ≤ 1000) (hq : ∀ x ∈ qtys t s.boards hs, 0 ≤ x ∧ x ≤ 1000) :
    CW CC 73 [v, .agg ⟨t.cells⟩] h fun r h' => r = .int .i64 (paid t s.boards hs) ∧ FrM m h h' := by
  have tk := Tar.ok_at ht
  have hb := hv
  have hml := hm.lt hk
  have hlen := qtys_len (t := t) hl
  have hsum := sumI_bound hq
  obtain ⟨a, b, c, d, rfl, hsh, hh⟩ := hv.ex
  obtain ⟨p1, c1, rfl, _⟩ := hsh.offs.open
  obtain ⟨p2, c2, rfl, _⟩ := hsh.boards.open
  obtain ⟨p3, c3, rfl, _⟩ := hsh.tars.open
  obtain ⟨p4, c4, rfl, _⟩ := hh.open
  have f1 : ∀ x y, Fr h ((h.alloc x).alloc y) := fun x y => ((Fr.refl hk).alloc x).alloc y
  have ra : ∀ y, rowAt ((h.alloc (.row [.slice p1 s.offs.length c1, .slice p2 s.boards.length c2, .slice p3 s.tars.length c3, .slice p4 hs.length c4, .map (some m)] 0 true)).alloc y) h.next = some [.slice p1 s.offs.length c1, .slice p2 s.boards.length c2, .slice p3 s.tars.length c3, .slice p4 hs.length c4, .map (some m)] := fun y => by
    rw [rowAt_old _ (by simp), rowAt_new]
  have kt : take? t.cells 0 5 = some t.cells := rfl
  have k4 : t.cells[4]? = some (.bool t.each) := rfl
  have kc : t.cells.all selfC = true := rfl
  refine CW_in Tryz.f73 (by kernel_rfl) (by kernel_rfl) rfl rfl ?_
  simp only [Tryz.f73]
  cases he : t.each with
  | true =>
    simp (maxDischargeDepth := 30) only [AMS, AMH, ↓reduceIte, Nat.reduceLT, Nat.reduceEqDiff, Nat.reduceAdd, Nat.reduceMul, reduceCtorEq, decide_true, decide_false, Nat.reduceLeDiff, Int.reduceNe, Int.reduceEq, ne_eq, not_false_eq_true, and_self, fp_41_4, ld_4, ld_41, ld_94, hk, kt, k4, he]
    refine W_call (parts_75 (t := t) (f1 _ _).ok (by simp) (hb.fr hk (f1 _ _)) (hm.fr hk (f1 _ _)) ht hl hn hq) ?_
    rintro pv h2 ⟨sp, F2⟩
    have F := ((f1 _ _).frM hk hm).trans F2
    have lp : LS h2 pv (parts t s.boards hs) ints 1 := SL.ls ints_len (by rw [show (parts t s.boards hs).length = s.boards.length by simp [parts, hlen]]; exact sp)
    simp (maxDischargeDepth := 30) only [AMS, AMH, ↓reduceIte, Nat.reduceLT, Nat.reduceEqDiff, Nat.reduceAdd, Nat.reduceMul, reduceCtorEq, decide_true, decide_false, Nat.reduceLeDiff, Int.reduceNe, Int.reduceEq, ne_eq, not_false_eq_true, and_self, fp_41_4, ld_4, ld_41, ld_94]
    refine W_call (sum_105 _ _ _ lp (by simp [parts, hlen]; omega) fun x hx => ?_) ?_
    · obtain ⟨q, hq1, rfl⟩ := List.mem_map.1 hx
      have := hq q hq1
      have := price1_b ht this.1 (by omega)
      omega
    rintro _ _ ⟨rfl, rfl⟩
    simp (maxDischargeDepth := 30) only [AMS, AMH, ↓reduceIte, Nat.reduceLT, Nat.reduceEqDiff, Nat.reduceAdd, Nat.reduceMul, reduceCtorEq, decide_true, decide_false, Nat.reduceLeDiff, Int.reduceNe, Int.reduceEq, ne_eq, not_false_eq_true, and_self, fp_41_4, ld_4, ld_41, ld_94]
    exact ⟨by simp [paid, he], F⟩
  | false =>
    simp (maxDischargeDepth := 30) only [AMS, AMH, ↓reduceIte, Nat.reduceLT, Nat.reduceEqDiff, Nat.reduceAdd, Nat.reduceMul, reduceCtorEq, decide_true, decide_false, Nat.reduceLeDiff, Int.reduceNe, Int.reduceEq, ne_eq, not_false_eq_true, and_self, fp_41_4, ld_4, ld_41, ld_94, hk, kt, k4, he]
    refine W_draw [(true, 0), (true, 1), (true, 2), (true, 3), (true, 4), (false, 0), (false, 1), (true, 5), (false, 0), (false, 1), (true, 6), (true, 7)] (by kernel_rfl) ?_
    simp (maxDischargeDepth := 30) only [AMS, AMH, ↓reduceIte, Nat.reduceLT, Nat.reduceEqDiff, Nat.reduceAdd, Nat.reduceMul, reduceCtorEq, decide_true, decide_false, Nat.reduceLeDiff, Int.reduceNe, Int.reduceEq, ne_eq, not_false_eq_true, and_self, fp_41_4, ld_4, ld_41, ld_94, hk, kt, k4, he]
    refine W_callP (quantities_107 (t := t) (f1 _ _).ok (by simp) (hb.fr hk (f1 _ _)) tk.1 tk.2.1 hl hn) ?_
    rintro qv h2 ⟨sq, fr2⟩
    have f2 := (f1 _ _).trans fr2
    have k2 := f2.ok
    have r2 := fr2.row' (f1 _ _).ok (ra (.row t.cells 0 true))
    have r3 : rowAt h2 (h.next + 1) = some t.cells := fr2.row' (f1 _ _).ok (rowAt_at t.cells 0 true (by simp))
    have lq : LS h2 qv (qtys t s.boards hs) ints 1 := SL.ls ints_len (by rw [hlen]; exact (by simpa using sq))
    have hm2 := hm.fr hk f2
    simp (maxDischargeDepth := 30) only [AMS, AMH, ↓reduceIte, Nat.reduceLT, Nat.reduceEqDiff, Nat.reduceAdd, Nat.reduceMul, reduceCtorEq, decide_true, decide_false, Nat.reduceLeDiff, Int.reduceNe, Int.reduceEq, ne_eq, not_false_eq_true, and_self, AMR, fp_41_4, ld_4, ld_41, ld_94, k2, kt, k4, kc, r2, r3]
    refine W_callP (sum_105 _ _ _ lq (by rw [hlen]; omega) fun x hx => ?_) ?_
    · have := hq x hx; omega
    rintro _ _ ⟨rfl, rfl⟩
    simp (maxDischargeDepth := 30) only [AMS, AMH, ↓reduceIte, Nat.reduceLT, Nat.reduceEqDiff, Nat.reduceAdd, Nat.reduceMul, reduceCtorEq, decide_true, decide_false, Nat.reduceLeDiff, Int.reduceNe, Int.reduceEq, ne_eq, not_false_eq_true, and_self, AMR, fp_41_4, ld_4, ld_41, ld_94, k2, kt, k4, kc, r2, r3]
    have hb3 : (qtys t s.boards hs).length ≤ 1000 := by rw [hlen]; exact hn
    refine W_callP (price_106 (t := t) (q := sumI (qtys t s.boards hs)) k2 (hb.fr hk f2) hm2 ht hsum.1 (by omega)) ?_
    rintro _ h3 ⟨rfl, F3⟩
    simp (maxDischargeDepth := 30) only [AMS, AMH, ↓reduceIte, Nat.reduceLT, Nat.reduceEqDiff, Nat.reduceAdd, Nat.reduceMul, reduceCtorEq, decide_true, decide_false, Nat.reduceLeDiff, Int.reduceNe, Int.reduceEq, ne_eq, not_false_eq_true, and_self, fp_41_4, ld_4, ld_41, ld_94]
    exact ⟨by simp [paid, he], (f2.frM hk hm).trans F3⟩
end Go.Am
