/- Parts X0, T70, T71 of the abstract machine over this program, joined: what each part says stands at its head. -/
import Derived.Test.YtlflfbnnjlkkcaaGreatJT41
set_option linter.unusedSimpArgs false
set_option linter.unusedVariables false
/- The abstract machine: heaps with objects put behind them; frames that agree; loops that count. -/
namespace Go.Am
open Go Go.Proofs

/-- a heap, and objects behind it -/
noncomputable def Heap.ex (h : Heap) (l : List AObj) : Heap := l.foldl Heap.alloc h
theorem ex_cons (h : Heap) (x : AObj) (l : List AObj) : h.ex (x :: l) = (h.alloc x).ex l := rfl
theorem ex_one (h : Heap) (x : AObj) : h.alloc x = h.ex [x] := rfl
theorem ex_ex (h : Heap) (l m : List AObj) : (h.ex l).ex m = h.ex (l ++ m) := by
  unfold Heap.ex; rw [List.foldl_append]
theorem ex_next (h : Heap) (l : List AObj) : (h.ex l).next = h.next + l.length := by
  induction l generalizing h with
  | nil => rfl
  | cons x l ih => rw [ex_cons, ih]; simp; omega
theorem ex_fr {a h : Heap} (l : List AObj) (f : Fr a h) : Fr a (h.ex l) := by
  induction l generalizing h with
  | nil => exact f
  | cons x l ih => exact ih (f.alloc x)
theorem ex_ok {h : Heap} (l : List AObj) (hk : HOK h) : HOK (h.ex l) := (ex_fr l (Fr.refl hk)).ok
theorem ex_lt {h : Heap} {l : List AObj} {i : Nat} (hi : i < h.next) : (h.ex l).get i = h.get i := by
  induction l generalizing h with
  | nil => rfl
  | cons x l ih => rw [ex_cons, ih (by simp; omega)]; exact get_old x hi
theorem ex_at {h : Heap} {l : List AObj} {n i : Nat} (hn : h.next = n) (hi : i < l.length) : (h.ex l).get (n + i) = l[i]? := by
  subst hn
  induction l generalizing h i with
  | nil => simp at hi
  | cons x l ih =>
    rw [ex_cons]
    cases i with
    | zero => rw [ex_lt (by simp)]; simp
    | succ i => have := @ih (h.alloc x) i (by simpa using hi); rw [show h.next + (i + 1) = (h.alloc x).next + i by simp; omega, this]; rfl
theorem ex_at0 {h : Heap} {x : AObj} {l : List AObj} {n : Nat} (hn : h.next = n) : (h.ex (x :: l)).get n = some x := ex_at (i := 0) hn (by simp)
theorem rx_lt {h : Heap} {l : List AObj} {i : Nat} (hi : i < h.next) : rowAt (h.ex l) i = rowAt h i := by unfold rowAt; rw [ex_lt hi]
theorem rx_at {h : Heap} {l : List AObj} {n i : Nat} (hn : h.next = n) (hi : i < l.length) : rowAt (h.ex l) (n + i) = obind l[i]? rowOf := by unfold rowAt; rw [ex_at hn hi]
theorem rx_at0 {h : Heap} {c : List Value} {s : Nat} {o : Bool} {l : List AObj} {n : Nat} (hn : h.next = n) : rowAt (h.ex (.row c s o :: l)) n = some c := by unfold rowAt; rw [ex_at0 hn]; rfl
theorem rowOf_row (c : List Value) (s : Nat) (o : Bool) : rowOf (.row c s o) = some c := rfl
theorem left_node {α : Type} (l : NT α) (o : Option α) (r : NT α) : (NT.node l o r).left = l := rfl
theorem here_node {α : Type} (l : NT α) (o : Option α) (r : NT α) : (NT.node l o r).here = o := rfl
theorem right_node {α : Type} (l : NT α) (o : Option α) (r : NT α) : (NT.node l o r).right = r := rfl
/-- sets of objects in any order are the same heap -/
theorem put_comm {α : Type} (f g : Nat) (a b : α) : ∀ (t : NT α) (n m : Nat), n ≠ m → n < f → m < g → NT.put g (NT.put f t n a) m b = NT.put f (NT.put g t m b) n a := by
  induction f generalizing g with
  | zero => intro t n m _ h; omega
  | succ f ih =>
    cases g with
    | zero => intro t n m _ _ h; omega
    | succ g =>
      intro t n m hne hf hg
      cases n with
      | zero =>
        cases m with
        | zero => exact absurd rfl hne
        | succ m => simp only [NT.put_zero, NT.put_succ]; split <;> rfl
      | succ n =>
        cases m with
        | zero => simp only [NT.put_zero, NT.put_succ]; split <;> rfl
        | succ m =>
          simp only [NT.put_succ]
          by_cases h1 : n % 2 = 0 <;> by_cases h2 : m % 2 = 0 <;> simp only [h1, h2, if_true, if_false, left_node, right_node, here_node]
          · rw [ih g t.left (n / 2) (m / 2) (by omega) (by omega) (by omega)]
          · rw [ih g t.right (n / 2) (m / 2) (by omega) (by omega) (by omega)]
theorem put_put {α : Type} (f : Nat) (a b : α) : ∀ (t : NT α) (n : Nat), n < f → NT.put f (NT.put f t n a) n b = NT.put f t n b := by
  induction f with
  | zero => intro t n h; omega
  | succ f ih =>
    intro t n hf
    cases n with
    | zero => rfl
    | succ n =>
      simp only [NT.put_succ]
      by_cases h1 : n % 2 = 0 <;> simp only [h1, if_true, if_false, left_node, right_node, here_node]
      · rw [ih t.left (n / 2) (by omega)]
      · rw [ih t.right (n / 2) (by omega)]
theorem set_set (h : Heap) (i : Nat) (x y : AObj) : (h.set i x).set i y = h.set i y := by
  unfold Heap.set NT.ins; simp only; rw [put_put _ _ _ _ _ (by omega)]
theorem alloc_set (h : Heap) (x y : AObj) {j : Nat} (hj : j ≠ h.next) : (h.alloc x).set j y = (h.set j y).alloc x := by
  unfold Heap.alloc Heap.set NT.ins; simp only; rw [put_comm _ _ _ _ _ _ _ (by omega) (by omega) (by omega)]
theorem alloc_put (h : Heap) (x y : AObj) : (h.alloc x).set h.next y = h.alloc y := by
  unfold Heap.alloc Heap.set NT.ins; simp only; rw [put_put _ _ _ _ _ (by omega)]
theorem ex_set {h : Heap} {l : List AObj} {j : Nat} (y : AObj) (hj : j < h.next) : (h.ex l).set j y = (h.set j y).ex l := by
  induction l generalizing h with
  | nil => rfl
  | cons x l ih => rw [ex_cons, ih (by simp; omega), alloc_set h x y (by omega)]; rfl
theorem ex_put {h : Heap} {l : List AObj} {n i : Nat} (y : AObj) (hn : h.next = n) (hi : i < l.length) : (h.ex l).set (n + i) y = h.ex (l.set i y) := by
  subst hn
  induction l generalizing h i with
  | nil => simp at hi
  | cons x l ih =>
    cases i with
    | zero => rw [ex_cons, ex_set y (by simp)]; show Heap.ex ((h.alloc x).set h.next y) l = _; rw [alloc_put]; rfl
    | succ i => have := @ih (h.alloc x) i (by simpa using hi); rw [ex_cons, show h.next + (i + 1) = (h.alloc x).next + i by simp; omega, this]; rfl
theorem ex_put0 {h : Heap} {x : AObj} {l : List AObj} {n : Nat} (y : AObj) (hn : h.next = n) : (h.ex (x :: l)).set n y = h.ex (y :: l) := ex_put (i := 0) y hn (by simp)
theorem lt_pos {a c : Nat} (h : 0 < c) : a < a + c := Nat.lt_add_of_pos_right h
theorem lt_far {a b c : Nat} (h : a < b) : a < b + c := Nat.lt_add_right c h
theorem set_c0 {α : Type} (a b : α) (l : List α) : (a :: l).set 0 b = b :: l := rfl
theorem set_cs {α : Type} (a b : α) (l : List α) (n : Nat) : (a :: l).set (n + 1) b = a :: l.set n b := rfl
/-- what is known after a call that keeps what was there -/
theorem Fr.S {h h' : Heap} (f : Fr h h') : HOK h' ∧ (∀ i, i < h.next → h'.get i = h.get i) ∧ (∀ i, i < h.next → rowAt h' i = rowAt h i) ∧ ∀ i, i < h.next → i < h'.next :=
  ⟨f.ok, f.get, fun _ hi => f.row hi, fun _ hi => Nat.lt_of_lt_of_le hi f.next⟩
theorem XH : type_of% (And.intro @ex_one <| And.intro @ex_ex <| And.intro @ex_next <| And.intro @ex_ok <| And.intro @ex_lt <| And.intro @ex_at <| And.intro @ex_at0 <| And.intro @rx_lt <| And.intro @rx_at <| And.intro @rx_at0 <| And.intro @rowOf_row <| And.intro @ex_set <| And.intro @ex_put <| And.intro @ex_put0 <| And.intro @lt_pos <| And.intro @lt_far <| And.intro @set_c0 <| And.intro @set_cs @Nat.add_lt_add_iff_left) := And.intro @ex_one <| And.intro @ex_ex <| And.intro @ex_next <| And.intro @ex_ok <| And.intro @ex_lt <| And.intro @ex_at <| And.intro @ex_at0 <| And.intro @rx_lt <| And.intro @rx_at <| And.intro @rx_at0 <| And.intro @rowOf_row <| And.intro @ex_set <| And.intro @ex_put <| And.intro @ex_put0 <| And.intro @lt_pos <| And.intro @lt_far <| And.intro @set_c0 <| And.intro @set_cs @Nat.add_lt_add_iff_left

/-- frames that are the same but for some places -/
def Ag (ws : List Nat) (g f : Nat → Value) : Prop := ∀ t, t ∉ ws → g t = f t
/-- that a slot is none of some -/
theorem NE : type_of% (And.intro (@List.mem_cons Nat) <| And.intro (@List.not_mem_nil Nat) <| And.intro @or_false <| And.intro @false_or @or_self) := And.intro (@List.mem_cons Nat) <| And.intro (@List.not_mem_nil Nat) <| And.intro @or_false <| And.intro @false_or @or_self
theorem Ag.refl (ws : List Nat) (f : Nat → Value) : Ag ws f f := fun _ _ => rfl
theorem Ag_upd {ws : List Nat} {g f : Nat → Value} {d : Nat} {v : Value} (hd : d ∈ ws) : Ag ws (upd g d v) f ↔ Ag ws g f := by
  have : ∀ t, t ∉ ws → upd g d v t = g t := fun t ht => by rw [upd_at, if_neg (by rintro rfl; exact ht hd)]
  exact ⟨fun h t ht => (this t ht).symm.trans (h t ht), fun h t ht => (this t ht).trans (h t ht)⟩
theorem Ag.r {ws : List Nat} {g f : Nat → Value} (h : Ag ws g f) : ∀ t, t ∉ ws → g t = f t := h
theorem Ag.thru {ws ws2 : List Nat} {g f' f : Nat → Value} (h : Ag ws2 g f') (hs : (ws2.all fun t => ws.contains t) = true) (h2 : Ag ws f' f) : Ag ws g f := fun t ht =>
  (h t fun hm => ht (by have := List.all_eq_true.1 hs t hm; simpa using this)).trans (h2 t ht)
theorem SL.other {N : Nat} {h : Heap} {v : Value} {l : List Value} {s n m : Nat} {x : AObj} (q : SL N h v l s n) (hg : h.get m = some x) (hx : ∀ c, x ≠ .row c s true) : blkOf v ≠ some m := by
  rcases q with ⟨rfl, _, _⟩ | ⟨b, rfl, _, _, h3, _⟩
  · simp [blkOf]
  · intro e
    simp [blkOf] at e
    subst e
    rw [h3] at hg
    simp at hg
    exact hx _ hg.symm
theorem found_v (z v : Value) (j : Nat) : found z false (some (j, v)) = some v := rfl
theorem AG : type_of% (And.intro @Ag_upd <| And.intro (@List.mem_cons Nat) <| And.intro (@List.not_mem_nil Nat) <| And.intro @true_or <| And.intro @or_true <| And.intro @false_or @or_false) := And.intro @Ag_upd <| And.intro (@List.mem_cons Nat) <| And.intro (@List.not_mem_nil Nat) <| And.intro @true_or <| And.intro @or_true <| And.intro @false_or @or_false
section
variable {C : Ctx} {rd : Option Nat} {body : Code} {k : List Item} {N : Nat} {f : Nat → Value} {D : List Deferred} {p : Option Value} {h : Heap} {Q : FEnd → FrS → Heap → Prop}
/-- a loop that counts -/
theorem W_for (ws : List Nat) (ti n : Nat) (I : Nat → (Nat → Value) → Heap → Prop) (h0 : f ti = .int .i64 0) (hI : I 0 f h)
    (step : ∀ i g h, i < n → Ag ws g f → g ti = .int .i64 (i : Int) → I i g h → (∀ g' h', Ag ws g' f → g' ti = .int .i64 ((i + 1 : Nat) : Int) → I (i + 1) g' h' → W (Lim C rd (.inLoop body :: k) ⟨T N g', D, p⟩ h') Q) → W (Lim C rd (.code body :: .inLoop body :: k) ⟨T N g, D, p⟩ h) Q)
    (fin : ∀ g h, Ag ws g f → g ti = .int .i64 (n : Int) → I n g h → W (Lim C rd (.code body :: .inLoop body :: k) ⟨T N g, D, p⟩ h) Q) :
    W (Lim C rd (.inLoop body :: k) ⟨T N f, D, p⟩ h) Q := by
  refine W_loop n (fun m g h => ∃ i, i ≤ n ∧ m = n - i ∧ Ag ws g f ∧ g ti = .int .i64 (i : Int) ∧ I i g h) ⟨0, by omega, by omega, Ag.refl _ _, h0, hI⟩ ?_
  rintro m g h ⟨i, hi, rfl, ag, gi, hI⟩ ih
  by_cases hil : i < n
  · exact step i g h hil ag gi hI fun g' h' ag' gi' hI' => ih (n - (i + 1)) g' h' (by omega) ⟨i + 1, by omega, rfl, ag', gi', hI'⟩
  · have : i = n := by omega
    subst this
    exact fin g h ag gi hI
/-- a loop that counts from one number to another -/
theorem W_to (ws : List Nat) (ti : Nat) (lo hi : Int) (I : Int → (Nat → Value) → Heap → Prop) (hb : lo ≤ hi + 1) (h0 : f ti = .int .i64 lo) (hI : I lo f h)
    (step : ∀ y g h, lo ≤ y → y ≤ hi → Ag ws g f → g ti = .int .i64 y → I y g h → (∀ g' h', Ag ws g' f → g' ti = .int .i64 (y + 1) → I (y + 1) g' h' → W (Lim C rd (.inLoop body :: k) ⟨T N g', D, p⟩ h') Q) → W (Lim C rd (.code body :: .inLoop body :: k) ⟨T N g, D, p⟩ h) Q)
    (fin : ∀ g h, Ag ws g f → g ti = .int .i64 (hi + 1) → I (hi + 1) g h → W (Lim C rd (.code body :: .inLoop body :: k) ⟨T N g, D, p⟩ h) Q) :
    W (Lim C rd (.inLoop body :: k) ⟨T N f, D, p⟩ h) Q := by
  refine W_loop (hi - lo + 1).toNat (fun m g h => ∃ y, lo ≤ y ∧ y ≤ hi + 1 ∧ m = (hi - y + 1).toNat ∧ Ag ws g f ∧ g ti = .int .i64 y ∧ I y g h) ⟨lo, by omega, by omega, rfl, Ag.refl _ _, h0, hI⟩ ?_
  rintro m g h ⟨y, h1, h2, rfl, ag, gi, hI⟩ ih
  by_cases hil : y ≤ hi
  · exact step y g h h1 hil ag gi hI fun g' h' ag' gi' hI' => ih (hi - (y + 1) + 1).toNat g' h' (by omega) ⟨y + 1, by omega, by omega, rfl, ag', gi', hI'⟩
  · have : y = hi + 1 := by omega
    subst this
    exact fin g h ag gi hI
end
end Go.Am

/- The abstract machine over this program: tints: ranges, spans, sums. -/
namespace Go.Am
open Go Go.Proofs
theorem F53_T70 : type_of% (And.intro @ix_22 <| And.intro @ld_3 <| And.intro @len_22 <| And.intro @part_3 <| And.intro @size_22 <| And.intro @size_3 <| And.intro @und_22 @zero_22) := And.intro @ix_22 <| And.intro @ld_3 <| And.intro @len_22 <| And.intro @part_3 <| And.intro @size_22 <| And.intro @size_3 <| And.intro @und_22 @zero_22
theorem F149_T70 : type_of% (And.intro @ix_22 <| And.intro @ld_3 <| And.intro @len_22 <| And.intro @part_3 <| And.intro @size_22 <| And.intro @size_3 <| And.intro @und_22 @zero_22) := And.intro @ix_22 <| And.intro @ld_3 <| And.intro @len_22 <| And.intro @part_3 <| And.intro @size_22 <| And.intro @size_3 <| And.intro @und_22 @zero_22

theorem in_t (x lo hi : Int) (h : Heap) : callF CC (Lim CC) 131 [.int .i64 x, .int .i64 lo, .int .i64 hi] h = some (.ret (.bool (inP x lo hi)) h none) := by
  refine CW.eq (CW_in Tryz.f131 (by kernel_rfl) (by kernel_rfl) rfl rfl ?_)
  simp only [Tryz.f131]
  by_cases h1 : x ≥ lo
  · simp (maxDischargeDepth := 30) only [AMS, AMH, ↓reduceIte, Nat.reduceLT, Nat.reduceEqDiff, Nat.reduceAdd, Nat.reduceMul, reduceCtorEq, decide_true, decide_false, Nat.reduceLeDiff, Int.reduceNe, Int.reduceEq, ne_eq, not_false_eq_true, and_self, h1]
    simp [inP, show lo ≤ x from h1]
  · simp (maxDischargeDepth := 30) only [AMS, AMH, ↓reduceIte, Nat.reduceLT, Nat.reduceEqDiff, Nat.reduceAdd, Nat.reduceMul, reduceCtorEq, decide_true, decide_false, Nat.reduceLeDiff, Int.reduceNe, Int.reduceEq, ne_eq, not_false_eq_true, and_self, h1]
    simp [inP, show ¬ lo ≤ x from h1]
theorem in_7 (x lo hi : Int) (h : Heap) : callF CC (Lim CC) 52 [.int .i64 x, .int .i64 lo, .int .i64 hi] h = some (.ret (.bool (inP x lo hi)) h none) := by
  refine CW.eq (CW_in Tryz.f52 (by kernel_rfl) (by kernel_rfl) rfl rfl ?_)
  simp only [Tryz.f52]
  by_cases h1 : x ≥ lo
  · simp (maxDischargeDepth := 30) only [AMS, AMH, ↓reduceIte, Nat.reduceLT, Nat.reduceEqDiff, Nat.reduceAdd, Nat.reduceMul, reduceCtorEq, decide_true, decide_false, Nat.reduceLeDiff, Int.reduceNe, Int.reduceEq, ne_eq, not_false_eq_true, and_self, h1]
    simp [inP, show lo ≤ x from h1]
  · simp (maxDischargeDepth := 30) only [AMS, AMH, ↓reduceIte, Nat.reduceLT, Nat.reduceEqDiff, Nat.reduceAdd, Nat.reduceMul, reduceCtorEq, decide_true, decide_false, Nat.reduceLeDiff, Int.reduceNe, Int.reduceEq, ne_eq, not_false_eq_true, and_self, h1]
    simp [inP, show ¬ lo ≤ x from h1]
theorem in_d (x lo hi : Int) (h : Heap) : callF CC (Lim CC) 153 [.int .i64 x, .int .i64 lo, .int .i64 hi] h = some (.ret (.bool (inP x lo hi)) h none) := by
  refine CW.eq (CW_in Tryz.f153 (by kernel_rfl) (by kernel_rfl) rfl rfl ?_)
  simp only [Tryz.f153]
  by_cases h1 : x ≥ lo
  · simp (maxDischargeDepth := 30) only [AMS, AMH, ↓reduceIte, Nat.reduceLT, Nat.reduceEqDiff, Nat.reduceAdd, Nat.reduceMul, reduceCtorEq, decide_true, decide_false, Nat.reduceLeDiff, Int.reduceNe, Int.reduceEq, ne_eq, not_false_eq_true, and_self, h1]
    simp [inP, show lo ≤ x from h1]
  · simp (maxDischargeDepth := 30) only [AMS, AMH, ↓reduceIte, Nat.reduceLT, Nat.reduceEqDiff, Nat.reduceAdd, Nat.reduceMul, reduceCtorEq, decide_true, decide_false, Nat.reduceLeDiff, Int.reduceNe, Int.reduceEq, ne_eq, not_false_eq_true, and_self, h1]
    simp [inP, show ¬ lo ≤ x from h1]
/-- a span of numbers from 0 to another one -/
def spanP (a b most : Int) : Bool := inP a 0 most && inP b a most
theorem span_t (a b most : Int) {h : Heap} (hk : HOK h) : CW CC 132 [.agg ⟨[.int .i64 a, .int .i64 b]⟩, .int .i64 most] h fun r h' => r = .bool (spanP a b most) ∧ Fr h h' := by
  refine CW_in Tryz.f132 (by kernel_rfl) (by kernel_rfl) rfl rfl ?_
  simp only [Tryz.f132]
  have f1 : Fr h (h.alloc (.row [.int .i64 a, .int .i64 b] 0 true)) := (Fr.refl hk).alloc _
  cases h1 : inP a 0 most with
  | false =>
    simp (maxDischargeDepth := 30) only [AMS, AMH, ↓reduceIte, Nat.reduceLT, Nat.reduceEqDiff, Nat.reduceAdd, Nat.reduceMul, reduceCtorEq, decide_true, decide_false, Nat.reduceLeDiff, Int.reduceNe, Int.reduceEq, ne_eq, not_false_eq_true, and_self, fp_25_0, fp_25_1, ld_3, hk, in_t, h1]
    exact ⟨by unfold spanP; rw [h1]; rfl, f1⟩
  | true =>
    simp (maxDischargeDepth := 30) only [AMS, AMH, ↓reduceIte, Nat.reduceLT, Nat.reduceEqDiff, Nat.reduceAdd, Nat.reduceMul, reduceCtorEq, decide_true, decide_false, Nat.reduceLeDiff, Int.reduceNe, Int.reduceEq, ne_eq, not_false_eq_true, and_self, fp_25_0, fp_25_1, ld_3, hk, in_t, h1]
    exact ⟨by unfold spanP; rw [h1]; rfl, f1⟩
theorem span_7 (a b most : Int) {h : Heap} (hk : HOK h) : CW CC 50 [.agg ⟨[.int .i64 a, .int .i64 b]⟩, .int .i64 most] h fun r h' => r = .bool (spanP a b most) ∧ Fr h h' := by
  refine CW_in Tryz.f50 (by kernel_rfl) (by kernel_rfl) rfl rfl ?_
  simp only [Tryz.f50]
  have f1 : Fr h (h.alloc (.row [.int .i64 a, .int .i64 b] 0 true)) := (Fr.refl hk).alloc _
  cases h1 : inP a 0 most with
  | false =>
    simp (maxDischargeDepth := 30) only [AMS, AMH, ↓reduceIte, Nat.reduceLT, Nat.reduceEqDiff, Nat.reduceAdd, Nat.reduceMul, reduceCtorEq, decide_true, decide_false, Nat.reduceLeDiff, Int.reduceNe, Int.reduceEq, ne_eq, not_false_eq_true, and_self, fp_25_0, fp_25_1, ld_3, hk, in_7, h1]
    exact ⟨by unfold spanP; rw [h1]; rfl, f1⟩
  | true =>
    simp (maxDischargeDepth := 30) only [AMS, AMH, ↓reduceIte, Nat.reduceLT, Nat.reduceEqDiff, Nat.reduceAdd, Nat.reduceMul, reduceCtorEq, decide_true, decide_false, Nat.reduceLeDiff, Int.reduceNe, Int.reduceEq, ne_eq, not_false_eq_true, and_self, fp_25_0, fp_25_1, ld_3, hk, in_7, h1]
    exact ⟨by unfold spanP; rw [h1]; rfl, f1⟩
theorem off_7 (n : Int) (h : Heap) : callF CC (Lim CC) 51 [.int .i64 n] h = some (.ret (.bool (inP n 1 20)) h none) := by
  refine CW.eq (CW_in Tryz.f51 (by kernel_rfl) (by kernel_rfl) rfl rfl ?_)
  simp only [Tryz.f51]
  simp (maxDischargeDepth := 30) only [AMS, AMH, ↓reduceIte, Nat.reduceLT, Nat.reduceEqDiff, Nat.reduceAdd, Nat.reduceMul, reduceCtorEq, decide_true, decide_false, Nat.reduceLeDiff, Int.reduceNe, Int.reduceEq, ne_eq, not_false_eq_true, and_self, L_nil, in_7]
set_option maxRecDepth 10000 in
theorem sum_t {v : Value} {l : List Int} (h : Heap) (hv : LS h v l ints 1) (hl : l.length ≤ 1000) (hb : ∀ x ∈ l, 0 ≤ x ∧ x ≤ 1000000000) : CW CC 149 [v] h fun r h' => r = .int .i64 (sumI l) ∧ h' = h := by
  obtain ⟨p, c, rfl, hx⟩ := hv.open
  refine CW_in Tryz.f149 (by kernel_rfl) (by kernel_rfl) rfl rfl ?_
  simp only [Tryz.f149]
  simp (maxDischargeDepth := 30) only [AMS, AMH, ↓reduceIte, Nat.reduceLT, Nat.reduceEqDiff, Nat.reduceAdd, Nat.reduceMul, reduceCtorEq, decide_true, decide_false, Nat.reduceLeDiff, Int.reduceNe, Int.reduceEq, ne_eq, not_false_eq_true, and_self, F149_T70]
  refine W_loop l.length (fun m f h' => ∃ pre rest, l = pre ++ rest ∧ m = rest.length ∧ f 6 = .slice p l.length c ∧ f 7 = .int .i64 l.length ∧ f 8 = .int .i64 pre.length ∧ f 3 = .int .i64 (sumI pre) ∧ h' = h) ⟨[], l, by simp, by simp, by simp [upd_at, argsFn_at], by simp [upd_at], by simp [upd_at], by simp [upd_at, sumI], rfl⟩ ?_
  rintro m f h' ⟨pre, rest, e, rfl, g6, g7, g8, g3, rfl⟩ ih
  cases rest with
  | nil =>
    have hlt : decide ((pre.length : Int) < (l.length : Int)) = false := by rw [e]; simp
    have e' : l = pre := by simpa using e
    simp (maxDischargeDepth := 30) only [AMS, AMH, ↓reduceIte, Nat.reduceLT, Nat.reduceEqDiff, Nat.reduceAdd, Nat.reduceMul, reduceCtorEq, decide_true, decide_false, Nat.reduceLeDiff, Int.reduceNe, Int.reduceEq, ne_eq, not_false_eq_true, and_self, F149_T70, g6, g7, g8, g3, hlt]
    exact ⟨by rw [e'], trivial⟩
  | cons x rest =>
    have hlt : decide ((pre.length : Int) < (l.length : Int)) = true := by rw [e]; simp; omega
    have hlt' : pre.length < l.length := by rw [e]; simp
    have hget : l[pre.length]? = some x := by rw [e]; exact mid_get _ _ _
    rcases hx with hx | ⟨b, o, sp, row, rfl, hr, hx⟩
    · rw [hx] at hlt'; simp at hlt'
    have k1 : row[o + pre.length]? = some (.int .i64 x) := by simpa [ints] using (hx _ x hget).2 0 (by omega)
    have hb1 := sumI_bound (B := 1000000000) (l := pre) fun y hy => hb y (by rw [e]; simp [hy])
    have hb2 := hb x (by rw [e]; simp)
    have w1 : IntKind.i64.wrap (sumI pre + x) = sumI (pre ++ [x]) := by rw [wrap64 (by omega) (by omega), sumI_app]
    simp (maxDischargeDepth := 30) only [AMS, AMH, ↓reduceIte, Nat.reduceLT, Nat.reduceEqDiff, Nat.reduceAdd, Nat.reduceMul, reduceCtorEq, decide_true, decide_false, Nat.reduceLeDiff, Int.reduceNe, Int.reduceEq, ne_eq, not_false_eq_true, and_self, F149_T70, g6, g7, g8, g3, hlt, hlt', hr, Nat.mul_one, k1, w1, i_next hlt' hl]
    refine ih rest.length _ _ (by simp) ?_
    refine ⟨pre ++ [x], rest, by rw [e, snoc_cons], rfl, by simp [upd_at, g6], by simp [upd_at, g7], by simp [upd_at], by simp [upd_at], rfl⟩
set_option maxRecDepth 10000 in
theorem parts_7 {v : Value} {l : List Int} (h : Heap) (hv : LS h v l ints 1) (hl : l.length ≤ 1000) (hb : ∀ x ∈ l, 0 ≤ x ∧ x ≤ 1000000000) : CW CC 53 [v] h fun r h' => r = .int .i64 (sumI l) ∧ h' = h := by
  obtain ⟨p, c, rfl, hx⟩ := hv.open
  refine CW_in Tryz.f53 (by kernel_rfl) (by kernel_rfl) rfl rfl ?_
  simp only [Tryz.f53]
  simp (maxDischargeDepth := 30) only [AMS, AMH, ↓reduceIte, Nat.reduceLT, Nat.reduceEqDiff, Nat.reduceAdd, Nat.reduceMul, reduceCtorEq, decide_true, decide_false, Nat.reduceLeDiff, Int.reduceNe, Int.reduceEq, ne_eq, not_false_eq_true, and_self, F53_T70]
  refine W_loop l.length (fun m f h' => ∃ pre rest, l = pre ++ rest ∧ m = rest.length ∧ f 0 = .slice p l.length c ∧ f 4 = .int .i64 pre.length ∧ f 3 = .int .i64 (sumI pre) ∧ h' = h) ⟨[], l, by simp, by simp, by simp [upd_at, argsFn_at], by simp [upd_at], by simp [upd_at, sumI], rfl⟩ ?_
  rintro m f h' ⟨pre, rest, e, rfl, g6, g8, g3, rfl⟩ ih
  cases rest with
  | nil =>
    have hlt : decide ((pre.length : Int) < (l.length : Int)) = false := by rw [e]; simp
    have e' : l = pre := by simpa using e
    simp (maxDischargeDepth := 30) only [AMS, AMH, ↓reduceIte, Nat.reduceLT, Nat.reduceEqDiff, Nat.reduceAdd, Nat.reduceMul, reduceCtorEq, decide_true, decide_false, Nat.reduceLeDiff, Int.reduceNe, Int.reduceEq, ne_eq, not_false_eq_true, and_self, F53_T70, g6, g8, g3, hlt]
    exact ⟨by rw [e'], trivial⟩
  | cons x rest =>
    have hlt : decide ((pre.length : Int) < (l.length : Int)) = true := by rw [e]; simp; omega
    have hlt' : pre.length < l.length := by rw [e]; simp
    have hget : l[pre.length]? = some x := by rw [e]; exact mid_get _ _ _
    rcases hx with hx | ⟨b, o, sp, row, rfl, hr, hx⟩
    · rw [hx] at hlt'; simp at hlt'
    have k1 : row[o + pre.length]? = some (.int .i64 x) := by simpa [ints] using (hx _ x hget).2 0 (by omega)
    have hb1 := sumI_bound (B := 1000000000) (l := pre) fun y hy => hb y (by rw [e]; simp [hy])
    have hb2 := hb x (by rw [e]; simp)
    have w1 : IntKind.i64.wrap (sumI pre + x) = sumI (pre ++ [x]) := by rw [wrap64 (by omega) (by omega), sumI_app]
    simp (maxDischargeDepth := 30) only [AMS, AMH, ↓reduceIte, Nat.reduceLT, Nat.reduceEqDiff, Nat.reduceAdd, Nat.reduceMul, reduceCtorEq, decide_true, decide_false, Nat.reduceLeDiff, Int.reduceNe, Int.reduceEq, ne_eq, not_false_eq_true, and_self, F53_T70, g6, g8, g3, hlt, hlt', hr, Nat.mul_one, k1, w1, i_next hlt' hl]
    refine ih rest.length _ _ (by simp) ?_
    refine ⟨pre ++ [x], rest, by rw [e, snoc_cons], rfl, by simp [upd_at, g6], by simp [upd_at], by simp [upd_at], rfl⟩
end Go.Am

/- Data of a suite; slices.ContainsFunc of numbers and of tins. -/
namespace Go.Am
open Go Go.Proofs
theorem F199_T71 : type_of% (And.intro @ix_22 <| And.intro @ld_3 <| And.intro @len_22 <| And.intro @part_3 <| And.intro @size_22 <| And.intro @size_3 <| And.intro @und_22 @zero_22) := And.intro @ix_22 <| And.intro @ld_3 <| And.intro @len_22 <| And.intro @part_3 <| And.intro @size_22 <| And.intro @size_3 <| And.intro @und_22 @zero_22
theorem F231_T71 : type_of% (And.intro @ix_41 <| And.intro @ld_143 <| And.intro @len_41 <| And.intro @part_143 <| And.intro @size_143 <| And.intro @size_41 <| And.intro @und_41 @zero_41) := And.intro @ix_41 <| And.intro @ld_143 <| And.intro @len_41 <| And.intro @part_143 <| And.intro @size_143 <| And.intro @size_41 <| And.intro @und_41 @zero_41
structure Sp where
  lo : Int
  hi : Int
def Sp.cells (x : Sp) : List Value := [.int .i64 x.lo, .int .i64 x.hi]
theorem Sp.len (x : Sp) : x.cells.length = 2 := rfl
structure CoatC where
  need : Int
  peel : Int
def CoatC.cells (x : CoatC) : List Value := [.int .i64 x.need, .int .i64 x.peel]
theorem CoatC.len (x : CoatC) : x.cells.length = 2 := rfl
structure LPair where
  l : Int
  r : Int
  lo : Int
  hi : Int
def LPair.cells (x : LPair) : List Value := [.int .i64 x.l, .int .i64 x.r, .int .i64 x.lo, .int .i64 x.hi]
theorem LPair.len (x : LPair) : x.cells.length = 4 := rfl
/-- a word as it lies in a list -/
structure WordV where
  signs : Value
  cuts : Value
  free : Bool
def WordV.cells (x : WordV) : List Value := [x.signs, x.cuts, .bool x.free]
theorem WordV.len (x : WordV) : x.cells.length = 3 := rfl
/-- a stroke as it lies in a list -/
structure StrokeV where
  board : Int
  round : Bool
  lo : Int
  hi : Int
  needs : Value
def StrokeV.cells (x : StrokeV) : List Value := [.int .i64 x.board, .bool x.round, .int .i64 x.lo, .int .i64 x.hi, x.needs]
theorem StrokeV.len (x : StrokeV) : x.cells.length = 5 := rfl
structure Tin where
  a : Sp
  b : Sp
  c : Sp
def Tin.cells (x : Tin) : List Value := [.int .i64 x.a.lo, .int .i64 x.a.hi, .int .i64 x.b.lo, .int .i64 x.b.hi, .int .i64 x.c.lo, .int .i64 x.c.hi]
theorem Tin.len (x : Tin) : x.cells.length = 6 := rfl

structure Board where
  L : Int
  F : Int
  lo : Int
  hi : Int
  ow : Int
structure Tar where
  kind : Int
  coins : Int
  units : Int
  rule : Int
  each : Bool
def Board.cells (b : Board) : List Value := [.int .i64 b.L, .int .i64 b.F, .int .i64 b.lo, .int .i64 b.hi, .int .i64 b.ow]
def Tar.cells (t : Tar) : List Value := [.int .i64 t.kind, .int .i64 t.coins, .int .i64 t.units, .int .i64 t.rule, .bool t.each]
theorem Board.len (b : Board) : b.cells.length = 5 := rfl
theorem Tar.len (b : Tar) : b.cells.length = 5 := rfl
structure TintS where
  o1 : Int
  o2 : Int
  o3 : Int
  f1 : Sp
  f2 : Sp
  f3 : Sp
  years : Sp
  off : Int
  tins : List Tin

theorem hits_none {α : Type} {xs : List α} {g : α → Bool} {n : Nat} (hn : n = xs.length) (h : ∀ (j : Nat) x, j < n → xs[j]? = some x → g x = false) : xs.any g = false := by
  subst hn
  rw [List.any_eq_false]
  intro x hx
  obtain ⟨j, hj⟩ := List.mem_iff_getElem?.1 hx
  simp [h j x (List.getElem?_eq_some_iff.1 hj).1 hj]
theorem hits_step {α : Type} {xs : List α} {g : α → Bool} {i : Nat} {x : α} (hx : xs[i]? = some x) (hg : g x = false) (h : ∀ (j : Nat) y, j < i → xs[j]? = some y → g y = false) : ∀ (j : Nat) y, j < i + 1 → xs[j]? = some y → g y = false := by
  intro j y hj hy
  by_cases hji : j < i
  · exact h j y hji hy
  · have : j = i := by omega
    subst this
    rw [hx] at hy; simp at hy; subst hy; exact hg

set_option maxRecDepth 10000 in
theorem index_ints {h : Heap} (hk : HOK h) {v fv : Value} {xs : List Int} (g : Int → Bool) (hv : LS h v xs ints 1) (hl : xs.length ≤ 1000)
    (hcl : ∀ h1, Fr h h1 → ∀ x ∈ xs, ∃ h2, appV CC fv [.int .i64 x] h1 = some (.ret (.bool (g x)) h2 none) ∧ Fr h1 h2) :
    CW CC 199 [v, fv] h fun r h' => (∃ i : Int, r = .int .i64 i ∧ decide (i ≥ 0) = xs.any g) ∧ Fr h h' := by
  obtain ⟨p, c, rfl, hx⟩ := hv.open
  refine CW_in Tryz.f199 (by kernel_rfl) (by kernel_rfl) rfl rfl ?_
  simp only [Tryz.f199]
  simp (maxDischargeDepth := 30) only [AMS, AMH, ↓reduceIte, Nat.reduceLT, Nat.reduceEqDiff, Nat.reduceAdd, Nat.reduceMul, reduceCtorEq, decide_true, decide_false, Nat.reduceLeDiff, Int.reduceNe, Int.reduceEq, ne_eq, not_false_eq_true, and_self, F199_T71, hk]
  refine W_loop xs.length (fun m f h' => ∃ i, i ≤ xs.length ∧ m = xs.length - i ∧ f 0 = .slice p xs.length c ∧ f 1 = fv ∧ f 7 = .int .i64 xs.length ∧ f 8 = .int .i64 i ∧ (∀ (j : Nat) x, j < i → xs[j]? = some x → g x = false) ∧ Fr h h')
    ⟨0, by omega, by omega, by simp [upd_at, argsFn_at], by simp [upd_at, argsFn_at], by simp [upd_at, argsFn_at], by simp [upd_at], fun j x hj => by omega, Fr.refl hk⟩ ?_
  rintro m f h' ⟨i, hi, rfl, f0, f1, f7, f8, hall, fr⟩ ih
  have hk' := fr.ok
  by_cases hil : i < xs.length
  · have hlt := lt_t hil
    obtain ⟨x, g1⟩ : ∃ x, xs[i]? = some x := ⟨_, List.getElem?_eq_getElem hil⟩
    rcases hx with hx | ⟨b, o, sp, row, rfl, hr, hx⟩
    · rw [hx] at hil; simp at hil
    have k1 : row[o + i]? = some (.int .i64 x) := by simpa [ints, unit] using (hx _ _ g1).2 0 (by omega)
    have hr' := fr.row' hk hr
    obtain ⟨h2, e2, fr2⟩ := hcl h' fr x (List.mem_of_getElem? g1)
    cases hg : g x with
    | true =>
      rw [hg] at e2
      simp (maxDischargeDepth := 30) only [AMS, AMH, ↓reduceIte, Nat.reduceLT, Nat.reduceEqDiff, Nat.reduceAdd, Nat.reduceMul, reduceCtorEq, decide_true, decide_false, Nat.reduceLeDiff, Int.reduceNe, Int.reduceEq, ne_eq, not_false_eq_true, and_self, F199_T71, hk', f0, f1, f7, f8, hlt, hil, hr', Nat.mul_one, k1, e2]
      refine ⟨⟨_, rfl, ?_⟩, fr.trans fr2⟩
      rw [show xs.any g = true from List.any_eq_true.2 ⟨x, List.mem_of_getElem? g1, hg⟩]; simp
    | false =>
      rw [hg] at e2
      have w := i_next hil hl
      simp (maxDischargeDepth := 30) only [AMS, AMH, ↓reduceIte, Nat.reduceLT, Nat.reduceEqDiff, Nat.reduceAdd, Nat.reduceMul, reduceCtorEq, decide_true, decide_false, Nat.reduceLeDiff, Int.reduceNe, Int.reduceEq, ne_eq, not_false_eq_true, and_self, F199_T71, hk', f0, f1, f7, f8, hlt, hil, hr', Nat.mul_one, k1, e2, w]
      refine ih (xs.length - (i + 1)) _ _ (by omega) ?_
      exact ⟨i + 1, by omega, rfl, by simp [upd_at, f0], by simp [upd_at, f1], by simp [upd_at, f7], by simp [upd_at], hits_step g1 hg hall, fr.trans fr2⟩
  · have he : i = xs.length := by omega
    subst he
    have hlt := lt_f xs.length
    simp (maxDischargeDepth := 30) only [AMS, AMH, ↓reduceIte, Nat.reduceLT, Nat.reduceEqDiff, Nat.reduceAdd, Nat.reduceMul, reduceCtorEq, decide_true, decide_false, Nat.reduceLeDiff, Int.reduceNe, Int.reduceEq, ne_eq, not_false_eq_true, and_self, F199_T71, hk', f0, f1, f7, f8, hlt]
    refine ⟨⟨_, rfl, ?_⟩, fr⟩
    rw [hits_none rfl hall]; simp

theorem contains_ints {h : Heap} (hk : HOK h) {v fv : Value} {xs : List Int} (g : Int → Bool) (hv : LS h v xs ints 1) (hl : xs.length ≤ 1000)
    (hcl : ∀ h1, Fr h h1 → ∀ x ∈ xs, ∃ h2, appV CC fv [.int .i64 x] h1 = some (.ret (.bool (g x)) h2 none) ∧ Fr h1 h2) :
    CW CC 105 [v, fv] h fun r h' => r = .bool (xs.any g) ∧ Fr h h' := by
  obtain ⟨r, h1, e, ⟨i, rfl, hi⟩, fr⟩ := index_ints hk g hv hl hcl
  refine CW_in Tryz.f105 (by kernel_rfl) (by kernel_rfl) rfl rfl ?_
  simp only [Tryz.f105]
  simp (maxDischargeDepth := 30) only [AMS, AMH, ↓reduceIte, Nat.reduceLT, Nat.reduceEqDiff, Nat.reduceAdd, Nat.reduceMul, reduceCtorEq, decide_true, decide_false, Nat.reduceLeDiff, Int.reduceNe, Int.reduceEq, ne_eq, not_false_eq_true, and_self, L_nil, hk, e]
  exact ⟨by rw [hi], fr⟩

set_option maxRecDepth 10000 in
theorem index_tins {h : Heap} (hk : HOK h) {v fv : Value} {xs : List Tin} (g : Tin → Bool) (hv : LS h v xs Tin.cells 6) (hl : xs.length ≤ 1000)
    (hcl : ∀ h1, Fr h h1 → ∀ x ∈ xs, ∃ h2, appV CC fv [.agg ⟨x.cells⟩] h1 = some (.ret (.bool (g x)) h2 none) ∧ Fr h1 h2) :
    CW CC 231 [v, fv] h fun r h' => (∃ i : Int, r = .int .i64 i ∧ decide (i ≥ 0) = xs.any g) ∧ Fr h h' := by
  obtain ⟨p, c, rfl, hx⟩ := hv.open
  refine CW_in Tryz.f231 (by kernel_rfl) (by kernel_rfl) rfl rfl ?_
  simp only [Tryz.f231]
  simp (maxDischargeDepth := 30) only [AMS, AMH, ↓reduceIte, Nat.reduceLT, Nat.reduceEqDiff, Nat.reduceAdd, Nat.reduceMul, reduceCtorEq, decide_true, decide_false, Nat.reduceLeDiff, Int.reduceNe, Int.reduceEq, ne_eq, not_false_eq_true, and_self, F231_T71, hk]
  refine W_loop xs.length (fun m f h' => ∃ i, i ≤ xs.length ∧ m = xs.length - i ∧ f 0 = .slice p xs.length c ∧ f 1 = fv ∧ f 7 = .int .i64 xs.length ∧ f 8 = .int .i64 i ∧ (∀ (j : Nat) x, j < i → xs[j]? = some x → g x = false) ∧ Fr h h')
    ⟨0, by omega, by omega, by simp [upd_at, argsFn_at], by simp [upd_at, argsFn_at], by simp [upd_at, argsFn_at], by simp [upd_at], fun j x hj => by omega, Fr.refl hk⟩ ?_
  rintro m f h' ⟨i, hi, rfl, f0, f1, f7, f8, hall, fr⟩ ih
  have hk' := fr.ok
  by_cases hil : i < xs.length
  · have hlt := lt_t hil
    obtain ⟨x, g1⟩ : ∃ x, xs[i]? = some x := ⟨_, List.getElem?_eq_getElem hil⟩
    rcases hx with hx | ⟨b, o, sp, row, rfl, hr, hx⟩
    · rw [hx] at hil; simp at hil
    have k1 : take? row (o + i * 6) 6 = some (x.cells) := (hx i x g1).1
    have hr' := fr.row' hk hr
    obtain ⟨h2, e2, fr2⟩ := hcl h' fr x (List.mem_of_getElem? g1)
    cases hg : g x with
    | true =>
      rw [hg] at e2
      simp (maxDischargeDepth := 30) only [AMS, AMH, ↓reduceIte, Nat.reduceLT, Nat.reduceEqDiff, Nat.reduceAdd, Nat.reduceMul, reduceCtorEq, decide_true, decide_false, Nat.reduceLeDiff, Int.reduceNe, Int.reduceEq, ne_eq, not_false_eq_true, and_self, F231_T71, hk', f0, f1, f7, f8, hlt, hil, hr', Nat.mul_one, k1, e2]
      refine ⟨⟨_, rfl, ?_⟩, fr.trans fr2⟩
      rw [show xs.any g = true from List.any_eq_true.2 ⟨x, List.mem_of_getElem? g1, hg⟩]; simp
    | false =>
      rw [hg] at e2
      have w := i_next hil hl
      simp (maxDischargeDepth := 30) only [AMS, AMH, ↓reduceIte, Nat.reduceLT, Nat.reduceEqDiff, Nat.reduceAdd, Nat.reduceMul, reduceCtorEq, decide_true, decide_false, Nat.reduceLeDiff, Int.reduceNe, Int.reduceEq, ne_eq, not_false_eq_true, and_self, F231_T71, hk', f0, f1, f7, f8, hlt, hil, hr', Nat.mul_one, k1, e2, w]
      refine ih (xs.length - (i + 1)) _ _ (by omega) ?_
      exact ⟨i + 1, by omega, rfl, by simp [upd_at, f0], by simp [upd_at, f1], by simp [upd_at, f7], by simp [upd_at], hits_step g1 hg hall, fr.trans fr2⟩
  · have he : i = xs.length := by omega
    subst he
    have hlt := lt_f xs.length
    simp (maxDischargeDepth := 30) only [AMS, AMH, ↓reduceIte, Nat.reduceLT, Nat.reduceEqDiff, Nat.reduceAdd, Nat.reduceMul, reduceCtorEq, decide_true, decide_false, Nat.reduceLeDiff, Int.reduceNe, Int.reduceEq, ne_eq, not_false_eq_true, and_self, F231_T71, hk', f0, f1, f7, f8, hlt]
    refine ⟨⟨_, rfl, ?_⟩, fr⟩
    rw [hits_none rfl hall]; simp

theorem contains_tins {h : Heap} (hk : HOK h) {v fv : Value} {xs : List Tin} (g : Tin → Bool) (hv : LS h v xs Tin.cells 6) (hl : xs.length ≤ 1000)
    (hcl : ∀ h1, Fr h h1 → ∀ x ∈ xs, ∃ h2, appV CC fv [.agg ⟨x.cells⟩] h1 = some (.ret (.bool (g x)) h2 none) ∧ Fr h1 h2) :
    CW CC 133 [v, fv] h fun r h' => r = .bool (xs.any g) ∧ Fr h h' := by
  obtain ⟨r, h1, e, ⟨i, rfl, hi⟩, fr⟩ := index_tins hk g hv hl hcl
  refine CW_in Tryz.f133 (by kernel_rfl) (by kernel_rfl) rfl rfl ?_
  simp only [Tryz.f133]
  simp (maxDischargeDepth := 30) only [AMS, AMH, ↓reduceIte, Nat.reduceLT, Nat.reduceEqDiff, Nat.reduceAdd, Nat.reduceMul, reduceCtorEq, decide_true, decide_false, Nat.reduceLeDiff, Int.reduceNe, Int.reduceEq, ne_eq, not_false_eq_true, and_self, L_nil, hk, e]
  exact ⟨by rw [hi], fr⟩

end Go.Am
