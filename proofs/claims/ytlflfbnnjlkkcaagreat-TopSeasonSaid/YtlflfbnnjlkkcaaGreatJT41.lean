/- The abstract machine, part 41: lemmas on walks that no program is in: lists in memory, what a part of a heap keeps, panics, loops over functions. -/
import Derived.Test.YtlflfbnnjlkkcaaGreatJT39
set_option linter.unusedSimpArgs false
set_option linter.unusedVariables false
set_option linter.defProp false
namespace Go.Am
open Go Go.Proofs
theorem mid_get {α : Type} (pre : List α) (x : α) (rest : List α) : (pre ++ x :: rest)[pre.length]? = some x := by simp
theorem LS.open {α : Type} {h : Heap} {v : Value} {xs : List α} {f : α → List Value} {s : Nat} (q : LS h v xs f s) :
    ∃ p c, v = .slice p xs.length c ∧ (xs = [] ∨ ∃ b o sp row, p = some ⟨b, o, sp⟩ ∧ rowAt h b = some row ∧ ∀ (i : Nat) x, xs[i]? = some x → take? row (o + i * s) s = some (f x) ∧ ∀ j, j < s → row[o + i * s + j]? = (f x)[j]?) := by
  rcases q with ⟨rfl, p, c, rfl⟩ | ⟨b, o, sp, c, row, rfl, h1, h2⟩
  · exact ⟨p, c, rfl, .inl rfl⟩
  · exact ⟨_, c, rfl, .inr ⟨b, o, sp, row, rfl, h1, h2⟩⟩
def sumI (l : List Int) : Int := l.foldl (· + ·) 0
theorem sumI_app (l : List Int) (x : Int) : sumI (l ++ [x]) = sumI l + x := by simp [sumI]
theorem foldl_add (l : List Int) : ∀ a : Int, l.foldl (· + ·) a = a + l.foldl (· + ·) 0 := by
  induction l with
  | nil => intro a; simp
  | cons x l ih => intro a; simp only [List.foldl_cons]; rw [ih (a + x), ih (0 + x)]; omega
theorem sumI_cons (x : Int) (l : List Int) : sumI (x :: l) = x + sumI l := by
  unfold sumI; rw [List.foldl_cons, foldl_add]; omega
theorem sumI_bound {B : Int} : ∀ {l : List Int}, (∀ x ∈ l, 0 ≤ x ∧ x ≤ B) → 0 ≤ sumI l ∧ sumI l ≤ B * l.length
  | [], _ => by simp [sumI]
  | x :: l, hb => by
    have h1 := hb x List.mem_cons_self
    have h2 := sumI_bound (l := l) fun y hy => hb y (List.mem_cons_of_mem _ hy)
    rw [sumI_cons]
    have e : B * ((x :: l).length : Int) = B * l.length + B := by simp [Int.mul_add]
    rw [e]; omega
theorem min_two (k : IntKind) (x y : Int) : foldV min2 [.int k y] (.int k x) = some (.int k (if y < x then y else x)) := rfl
theorem i_next {i n : Nat} (h : i < n) (hn : n ≤ 1000) : IntKind.i64.wrap ((i : Int) + 1) = ((i + 1 : Nat) : Int) := by rw [wrap64 (by omega) (by omega)]; omega
theorem lt_t {i n : Nat} (h : i < n) : decide ((i : Int) < (n : Int)) = true := by simp; omega
theorem lt_f (n : Nat) : decide ((n : Int) < (n : Int)) = false := by simp
theorem all_step {α : Type} {xs : List α} {p : α → Bool} {i : Nat} {x : α} (hx : xs[i]? = some x) (h : ∀ (j : Nat) y, j < i → xs[j]? = some y → p y = true) (hp : p x = true) : ∀ (j : Nat) y, j < i + 1 → xs[j]? = some y → p y = true := by
  intro j y hj hy
  by_cases hji : j < i
  · exact h j y hji hy
  · have : j = i := by omega
    subst this
    rw [hx] at hy; simp at hy; subst hy; exact hp
theorem all_end {α : Type} {xs : List α} {p : α → Bool} (h : ∀ (j : Nat) y, j < xs.length → xs[j]? = some y → p y = true) : xs.any (fun x => !(p x)) = false := by
  rw [List.any_eq_false]
  intro x hx
  obtain ⟨j, hj⟩ := List.mem_iff_getElem?.1 hx
  simp [h j x (List.getElem?_eq_some_iff.1 hj).1 hj]
theorem any_hit {α : Type} {xs : List α} {p : α → Bool} {i : Nat} {x : α} (hx : xs[i]? = some x) (hp : p x = false) : xs.any (fun x => !(p x)) = true :=
  List.any_eq_true.2 ⟨x, List.mem_of_getElem? hx, by simp [hp]⟩
theorem tdiv_nn {a b : Int} (ha : 0 ≤ a) (hb : 1 ≤ b) : a.tdiv b = a / b := Int.tdiv_eq_ediv_of_nonneg ha
theorem tmod_nn {a b : Int} (ha : 0 ≤ a) : a.tmod b = a % b := Int.tmod_eq_emod_of_nonneg ha
theorem div_b {a b : Int} (ha : 0 ≤ a) (hb : 1 ≤ b) : 0 ≤ a / b ∧ a / b ≤ a := ⟨Int.ediv_nonneg ha (by omega), Int.ediv_le_self b ha⟩
theorem callM_iface (C : Ctx) (S : Self) (t : TypeId) (v : Value) (n : String) (args : List Value) (h : Heap) : callM C S (.iface t v) n args h = obind (findMethod C t n) fun f => callF C S f (v :: args) h := rfl
theorem nil_meth (C : Ctx) (n : String) (t : TypeId) (w : Value) (l : List Value) (ys : Array Value) : aNilCheck C (.func (.method n) ⟨.iface t w :: l⟩ ys) = obind (findMethod C t n) fun _ => asVal (.func (.method n) ⟨.iface t w :: l⟩ ys) := rfl
theorem append_one {C : Ctx} {t u : TypeId} {ts : List TypeId} (ht : AppT C t u 1) {h0 h1 : Heap} {out v : Value} {l : List Value} {n : Nat} (f : Fr h0 h1) (hp : 0 < h1.next) (q : SL h0.next h1 out l 1 n) (hv : oneC v = true) (hn : n + 1 ≤ 4294967296) :
    ∃ h', aAppend C (t :: u :: ts) out (.slice (some ⟨h1.next, 0, some 1⟩) 1 1) (h1.alloc (.row [v] 1 true)) = some (.slice (some ⟨h1.next + 1, 0, some 1⟩) (n + 1) (n + 1), h') ∧ SL h0.next h' (.slice (some ⟨h1.next + 1, 0, some 1⟩) (n + 1) (n + 1)) (l ++ [v]) 1 (n + 1) ∧ Fr h0 h' ∧ h'.next = h1.next + 2 ∧ ∀ i, i < h1.next → blkOf out ≠ some i → h'.get i = h1.get i := by
  have q' : SL h0.next (h1.alloc (.row [v] 1 true)) out l 1 n := q.fr f.ok ((Fr.refl f.ok).alloc _)
  obtain ⟨h', e, q2, f2, n2, g2⟩ := append_at (ts := ts) ht (f.alloc (.row [v] 1 true)) (by simp) q' (x := .slice (some ⟨h1.next, 0, some 1⟩) 1 1) (new := [v]) (m := 0) rfl (by
    show obind (rowAt _ h1.next) (fun cells => take? cells 0 (1 * 1)) = _
    rw [rowAt_new]; rfl) (by simp [allOne_cons, hv, allOne_nil]) rfl hn
  exact ⟨h', e, q2, f2, by rw [n2]; simp, fun i hi hb => by rw [g2 i (by simp; omega) hb, Heap.get_alloc_ne _ _ (by omega)]⟩
theorem take_snoc {α : Type} {l : List α} {i : Nat} {x : α} (h : l[i]? = some x) : l.take (i + 1) = l.take i ++ [x] := by
  rw [List.take_add_one, h]; rfl
section
variable (k : IntKind) (n : Int) (b : Bool) (s : ByteArray) (p : Option Addr) (m c : Nat) (r : Option Nat) (l : List Value)
theorem same_int : sameV (.int k n) (.int k n) = true := sameV_cell rfl
theorem same_bool : sameV (.bool b) (.bool b) = true := sameV_cell rfl
theorem same_str : sameV (.string s) (.string s) = true := sameV_cell rfl
theorem same_slice : sameV (.slice p m c) (.slice p m c) = true := sameV_cell rfl
theorem same_ptr : sameV (.pointer p) (.pointer p) = true := sameV_cell rfl
theorem same_map : sameV (.map r) (.map r) = true := sameV_cell rfl
theorem self_int : selfC (.int k n) = true := rfl
theorem self_bool : selfC (.bool b) = true := rfl
theorem self_str : selfC (.string s) = true := rfl
theorem self_slice : selfC (.slice p m c) = true := rfl
theorem self_ptr : selfC (.pointer p) = true := rfl
theorem self_map : selfC (.map r) = true := rfl
theorem all_c (v : Value) : (v :: l).all selfC = (selfC v && l.all selfC) := rfl
theorem all_n : ([] : List Value).all selfC = true := rfl
theorem same_agg (h : l.all selfC = true) : sameV (.agg ⟨l⟩) (.agg ⟨l⟩) = true := sameV_agg h
theorem and_tt : (true && true) = true := rfl
end
def AMR := A2 @same_int <| A2 @same_bool <| A2 @same_str <| A2 @same_slice <| A2 @same_ptr <| A2 @same_map <| A2 @self_int <| A2 @self_bool <| A2 @self_str <| A2 @self_slice <| A2 @self_ptr <| A2 @self_map <| A2 @all_c <| A2 @all_n <| A2 @same_agg <| A2 @and_tt <| A2 @sameO_row @sameO_map
structure RK (h h' : Heap) : Prop where
  ok : HOK h'
  next : h.next ≤ h'.next
  row : ∀ i l s o, h.get i = some (.row l s o) → h'.get i = some (.row l s o)
theorem Fr.rk {h h' : Heap} (f : Fr h h') (hk : HOK h) : RK h h' := ⟨f.ok, f.next, fun i l s o hr => f.get' hk hr⟩
theorem RK.trans {a b c : Heap} (h : RK a b) (h' : RK b c) : RK a c := ⟨h'.ok, Nat.le_trans h.next h'.next, fun i l s o hr => h'.row i l s o (h.row i l s o hr)⟩
theorem RK.refl {h : Heap} (hk : HOK h) : RK h h := ⟨hk, Nat.le_refl _, fun _ _ _ _ h => h⟩
theorem RK.rowAt {h h' : Heap} (f : RK h h') {i : Nat} {l : List Value} (hr : rowAt h i = some l) : rowAt h' i = some l := by
  unfold Am.rowAt at hr ⊢
  obtain ⟨o, ho, h1⟩ := obind_eq hr
  cases o <;> simp [rowOf] at h1
  subst h1
  rw [f.row _ _ _ _ ho]; rfl
theorem LS.rk {α : Type} {h h' : Heap} {v : Value} {xs : List α} {f : α → List Value} {s : Nat} (q : LS h v xs f s) (fr : RK h h') : LS h' v xs f s := by
  rcases q with q | ⟨b, o, sp, c, row, h1, h2, h3⟩
  · exact .inl q
  · exact .inr ⟨b, o, sp, c, row, h1, fr.rowAt h2, h3⟩
theorem SL.rk {N : Nat} {h h' : Heap} {v : Value} {l : List Value} {s n : Nat} (q : SL N h v l s n) (f : RK h h') : SL N h' v l s n := by
  rcases q with q | ⟨b, e, h1, h2, h3, h4⟩
  · exact .inl q
  · exact .inr ⟨b, e, h1, h2, f.row _ _ _ _ h3, h4⟩
theorem cellsEq_int (k : IntKind) (a b : Int) (l r : List Value) : cellsEq (.int k a :: l) (.int k b :: r) = if a = b then cellsEq l r else some false := by
  show (match cellEq (.int k a) (.int k b) with | some true => cellsEq l r | some false => some false | none => none) = _
  simp only [cellEq, if_true]
  by_cases h : a = b
  · subst h; simp
  · have : (a == b) = false := by simpa using h
    rw [this, if_neg h]
theorem cellsEq_bool (a b : Bool) (l r : List Value) : cellsEq (.bool a :: l) (.bool b :: r) = if a = b then cellsEq l r else some false := by
  show (match cellEq (.bool a) (.bool b) with | some true => cellsEq l r | some false => some false | none => none) = _
  simp only [cellEq]
  by_cases h : a = b
  · subst h; simp
  · have : (a == b) = false := by simpa using h
    rw [this, if_neg h]
theorem cellsEq_nil : cellsEq [] [] = some true := rfl
theorem lookup_of {C : Ctx} {t k e : TypeId} {z key : Value} {h : Heap} {m : Nat} {es : List MapEntry} {c : Nat} {ok : Bool} (hu : C.und t = some (.map k e)) (hf : keyFits C k key = true) (hz : C.zero e = some z) (hm : h.get m = some (.map es c)) :
    aLookup C t (.map (some m)) key ok h = obind (aFind key es 0) (found z ok) := by
  unfold aLookup; rw [hu]; simp only [obind_some, mapTypes, hf, guardB_true, hz, entriesOf, hm, mapOf]
theorem update_of {C : Ctx} {t k e : TypeId} {key v : Value} {h : Heap} {m : Nat} {es : List MapEntry} {c : Nat} (hu : C.und t = some (.map k e)) (hf : keyFits C k key = true) (hm : h.get m = some (.map es c)) (hn : aFind key es 0 = some none) :
    aMapUpdate C t (.map (some m)) key v h = some (h.set m (.map (es ++ [{ key := key, val := v, born := c }]) (c + 1))) := by
  unfold aMapUpdate; rw [hu]; simp only [obind_some, mapTypes, hf, guardB_true, mapAt, hm, mapOf, hn, putEntry]
theorem found_hit (z v : Value) (j : Nat) : found z true (some (j, v)) = some (.tuple ⟨[v, .bool true]⟩) := rfl
theorem found_miss (z : Value) : found z true none = some (.tuple ⟨[z, .bool false]⟩) := rfl
theorem SL.weak {N N' : Nat} {h : Heap} {v : Value} {l : List Value} {s n : Nat} (q : SL N h v l s n) (hn : N' ≤ N) : SL N' h v l s n := by
  rcases q with q | ⟨b, e, h1, h2, h3⟩
  · exact .inl q
  · exact .inr ⟨b, e, h1, by omega, h3⟩
theorem append_raw {C : Ctx} {t u : TypeId} {ts : List TypeId} (ht : AppT C t u 1) {N : Nat} {h1 : Heap} {out v : Value} {l : List Value} {n : Nat} (hk : HOK h1) (hN : N ≤ h1.next) (hp : 0 < h1.next) (q : SL N h1 out l 1 n) (hv : oneC v = true) (hn : n + 1 ≤ 4294967296) :
    ∃ h', aAppend C (t :: u :: ts) out (.slice (some ⟨h1.next, 0, some 1⟩) 1 1) (h1.alloc (.row [v] 1 true)) = some (.slice (some ⟨h1.next + 1, 0, some 1⟩) (n + 1) (n + 1), h') ∧ SL N h' (.slice (some ⟨h1.next + 1, 0, some 1⟩) (n + 1) (n + 1)) (l ++ [v]) 1 (n + 1) ∧ HOK h' ∧ h'.next = h1.next + 2 ∧ ∀ i, i < h1.next → blkOf out ≠ some i → h'.get i = h1.get i := by
  have f : Fr ⟨0, .nil⟩ h1 := ⟨hk, Nat.zero_le _, fun i hi => absurd hi (Nat.not_lt_zero _)⟩
  obtain ⟨h', e, q', f', n', g'⟩ := append_one (ts := ts) ht f hp (q.weak (Nat.zero_le _)) hv hn
  refine ⟨h', e, ?_, f'.ok, n', g'⟩
  rcases q' with ⟨e', _⟩ | ⟨b, e', a1, a2, a3⟩
  · simp at e'
  · refine .inr ⟨b, e', a1, ?_, a3⟩
    simp at e'
    omega
theorem take?_inv {l : List Value} {o n : Nat} {r : List Value} (h : take? l o n = some r) : r = (l.drop o).take n ∧ r.length = n := by
  unfold take? at h
  cases hb : Nat.beq ((l.drop o).take n).length n with
  | true => rw [hb] at h; simp at h; subst h; exact ⟨rfl, Nat.eq_of_beq_eq_true hb⟩
  | false => rw [hb] at h; simp at h
theorem take?_app {l : List Value} {o n m : Nat} {r q : List Value} (h : take? l o n = some r) (h' : take? l (o + n) m = some q) : take? l o (n + m) = some (r ++ q) := by
  obtain ⟨rfl, h1⟩ := take?_inv h
  obtain ⟨rfl, h2⟩ := take?_inv h'
  have e : (l.drop o).take n ++ (l.drop (o + n)).take m = (l.drop o).take (n + m) := by
    rw [List.take_add, List.drop_drop]
  rw [e]
  have hl : ((l.drop o).take (n + m)).length = n + m := by rw [← e, List.length_append, h1, h2]
  unfold take?
  rw [hl]
  simp
theorem cells_all {α : Type} {row : List Value} {f : α → List Value} {s : Nat} : ∀ (xs : List α) (x0 : α) (o : Nat), (∀ (i : Nat) x, (x0 :: xs)[i]? = some x → take? row (o + i * s) s = some (f x)) → take? row o ((xs.length + 1) * s) = some ((x0 :: xs).flatMap f)
  | [], x0, o, h => by
    have := h 0 x0 rfl
    simpa using this
  | x1 :: xs, x0, o, h => by
    have h0 := h 0 x0 rfl
    have ih := cells_all xs x1 (o + s) fun i x hx => by
      have := h (i + 1) x (by simpa using hx)
      rw [Nat.add_mul, Nat.one_mul] at this
      rw [show o + s + i * s = o + (i * s + s) by omega]
      exact this
    have h0' : take? row o s = some (f x0) := by simpa using h0
    have := take?_app h0' ih
    rw [List.length_cons, show (xs.length + 1 + 1) * s = s + (xs.length + 1) * s by rw [Nat.add_mul (xs.length + 1), Nat.one_mul, Nat.add_comm]]
    exact this
theorem LS.cells {α : Type} {h : Heap} {v : Value} {x0 : α} {xs : List α} {f : α → List Value} {s : Nat} (q : LS h v (x0 :: xs) f s) : sliceCells h s (xs.length + 1) v = some ((x0 :: xs).flatMap f) := by
  rcases q with ⟨e, _⟩ | ⟨b, o, sp, c, row, rfl, h1, h2⟩
  · cases e
  · show obind (rowAt h b) _ = _
    rw [h1]
    exact cells_all xs x0 o fun i x hx => (h2 i x hx).1
theorem flat_set {α : Type} {f : α → List Value} {s : Nat} (hf : ∀ x, (f x).length = s) : ∀ (xs : List α) (i : Nat) (x x' : α) (j : Nat) (v : Value), xs[i]? = some x → j < s → f x' = (f x).set j v → (xs.flatMap f).set (i * s + j) v = (xs.set i x').flatMap f
  | [], i, x, x', j, v, h, _, _ => by simp at h
  | y :: ys, 0, x, x', j, v, h, hj, he => by
    simp at h; subst h
    simp only [List.flatMap_cons, List.set_cons_zero, Nat.zero_mul, Nat.zero_add]
    rw [List.set_append_left _ _ (by rw [hf]; exact hj), he]
  | y :: ys, i + 1, x, x', j, v, h, hj, he => by
    have := flat_set hf ys i x x' j v (by simpa using h) hj he
    simp only [List.flatMap_cons, List.set_cons_succ]
    rw [List.set_append_right _ _ (by rw [hf, Nat.add_mul]; omega), hf, ← this]
    congr 2
    rw [Nat.add_mul]; omega
theorem LS.cell {h : Heap} {p : Option Addr} {n c : Nat} {xs : List Int} (q : LS h (.slice p n c) xs ints 1) {i : Nat} {x : Int} (hx : xs[i]? = some x) : ∃ b o sp row, p = some ⟨b, o, sp⟩ ∧ rowAt h b = some row ∧ row[o + i]? = some (.int .i64 x) := by
  rcases q with ⟨rfl, _⟩ | ⟨b, o, sp, cp, row, e, h1, h2⟩
  · simp at hx
  · simp at e
    obtain ⟨rfl, _, _⟩ := e
    refine ⟨b, o, sp, row, rfl, h1, ?_⟩
    have := (h2 i x hx).2 0 (by omega)
    simpa [ints] using this
theorem flat_put {α : Type} {f : α → List Value} {s : Nat} (hf : ∀ x, (f x).length = s) : ∀ (xs : List α) (i : Nat) (x' : α), i < xs.length → (xs.flatMap f).take (i * s) ++ (f x' ++ (xs.flatMap f).drop (i * s + s)) = (xs.set i x').flatMap f
  | [], i, x', h => by simp at h
  | y :: ys, 0, x', h => by
    simp only [List.flatMap_cons, List.set_cons_zero, Nat.zero_mul, Nat.zero_add, List.take_zero, List.nil_append]
    rw [List.drop_append_of_le_length (by rw [hf]; exact Nat.le_refl _), List.drop_of_length_le (l := f y) (by rw [hf]; exact Nat.le_refl _), List.nil_append]
  | y :: ys, i + 1, x', h => by
    have ih := flat_put hf ys i x' (by simpa using h)
    have e1 : (i + 1) * s = (f y).length + i * s := by rw [hf, Nat.add_mul]; omega
    have e2 : (i + 1) * s + s = (f y).length + (i * s + s) := by rw [e1]; omega
    simp only [List.flatMap_cons, List.set_cons_succ]
    rw [e2, e1, ← ih]
    rw [List.take_length_add_append, List.drop_length_add_append, List.append_assoc]
theorem write_put {α : Type} {f : α → List Value} {s : Nat} (hf : ∀ x, (f x).length = s) (hs : 2 ≤ s) {xs : List α} {i : Nat} (x' : α) (hi : i < xs.length) : write? (xs.flatMap f) (i * s) (f x') = some ((xs.set i x').flatMap f) := by
  have hl : i * s + (f x').length ≤ (xs.flatMap f).length := by
    rw [flat_len hf, hf, ← Nat.succ_mul]; exact Nat.mul_le_mul_right s hi
  have : Nat.ble (i * s + (f x').length) (xs.flatMap f).length = true := Nat.ble_eq_true_of_le hl
  have e := flat_put hf xs i x' hi
  have h2 := hf x'
  rw [← e]
  unfold write?
  split
  · rename_i v he; rw [he] at h2; simp at h2; omega
  · rw [this]; rw [hf]
theorem append_row {C : Ctx} {t u : TypeId} {ts : List TypeId} {w : Nat} (ht : AppT C t u w) {h0 h1 : Heap} {out : Value} {cs l : List Value} {n : Nat} (f : Fr h0 h1) (hp : 0 < h1.next) (q : SL h0.next h1 out l w n) (hc : cs.length = w) (hv : allOne cs = true) (hn : n + 1 ≤ 4294967296) :
    ∃ h', aAppend C (t :: u :: ts) out (.slice (some ⟨h1.next, 0, some w⟩) 1 1) (h1.alloc (.row cs w true)) = some (.slice (some ⟨h1.next + 1, 0, some w⟩) (n + 1) (n + 1), h') ∧ SL h0.next h' (.slice (some ⟨h1.next + 1, 0, some w⟩) (n + 1) (n + 1)) (l ++ cs) w (n + 1) ∧ Fr h0 h' ∧ h'.next = h1.next + 2 ∧ ∀ i, i < h1.next → blkOf out ≠ some i → h'.get i = h1.get i := by
  have q' : SL h0.next (h1.alloc (.row cs w true)) out l w n := q.fr f.ok ((Fr.refl f.ok).alloc _)
  obtain ⟨h', e, q2, f2, n2, g2⟩ := append_at (ts := ts) ht (f.alloc (.row cs w true)) (by simp) q' (x := .slice (some ⟨h1.next, 0, some w⟩) 1 1) (new := cs) (m := 0) rfl (by
    show obind (rowAt _ h1.next) (fun cells => take? cells 0 ((0 + 1) * w)) = _
    rw [rowAt_new]
    show take? cs 0 ((0 + 1) * w) = _
    rw [take?_some (by omega), List.drop_zero, List.take_of_length_le (by omega)]) hv (by omega) hn
  exact ⟨h', e, q2, f2, by rw [n2]; simp, fun i hi hb => by rw [g2 i (by simp; omega) hb, Heap.get_alloc_ne _ _ (by omega)]⟩
section
variable {C : Ctx} {rd : Option Nat} {ops l : List Oper} {k : List Item} {s : FrS} {h : Heap} {dst : Option Tmp} {ty : TypeId} {pos : String} {aft : Array Edge}
theorem O_panic (x : Operand) : RO C rd ops (⟨dst, .panic x, ty, pos, aft, none⟩ :: l) k s h = ROr C rd ops l k (panicOp s h (ev s.tmps x)) := RO_eff _ rfl
theorem ROr_panic (t : TypeId) (v : Value) : ROr C rd ops l k (panicOp s h (.iface t v)) = some (.panic (.iface t v), s, h) := rfl
theorem O_defer (f : Operand) (xs : List Operand) (ts : Array TypeId) : RO C none ops (⟨dst, .defer ⟨.value f, ⟨xs⟩, ts⟩, ty, pos, aft, none⟩ :: l) k s h = ROr C none ops l k (deferVal dst (xs.map (ev s.tmps)) s h (ev s.tmps f)) := RO_eff _ rfl
theorem ROr_defer (fn : Fn) (first cap : List Value) (args : List Value) : ROr C rd ops l k (deferVal none args s h (.func fn ⟨first⟩ ⟨cap⟩)) = RO C rd ops l k ⟨s.tmps, { target := .fn fn ⟨cap⟩, args := ⟨first ++ args⟩ } :: s.defers, s.pan⟩ h := rfl
theorem O_recover {d n : Nat} {f : Nat → Value} {D : List Deferred} (v : Value) (ts : Array TypeId) : RO C none ops (⟨some d, .call ⟨.builtin .recover, ⟨[]⟩, ts⟩, ty, pos, aft, none⟩ :: l) k ⟨T n f, D, some v⟩ h = RO C none ops l k ⟨T n (upd f d v), D, none⟩ h := by
  rw [RO_eff _ rfl]
  show ROr C none ops l k (some (.ok ⟨(FrS.put ⟨T n f, D, some v⟩ (some d) v).tmps, D, none⟩ h)) = _
  rw [P_some]; rfl
theorem O_recover0 {d n : Nat} {f : Nat → Value} {D : List Deferred} (ts : Array TypeId) : RO C none ops (⟨some d, .call ⟨.builtin .recover, ⟨[]⟩, ts⟩, ty, pos, aft, none⟩ :: l) k ⟨T n f, D, none⟩ h = RO C none ops l k ⟨T n (upd f d .nilIface), D, none⟩ h := by
  rw [RO_eff _ rfl]
  show ROr C none ops l k (some (.ok (FrS.put ⟨T n f, D, none⟩ (some d) .nilIface) h)) = _
  rw [P_some]; rfl
end
theorem Post_end (C : Ctx) (rs : List ResultVar) (Q : Value → Heap → Prop) (n : Nat) (f : Nat → Value) (h : Heap) : Post C rs Q (.ended none) ⟨T n f, [], none⟩ h ↔ PR Q h (readResults C (T n f) h rs) := by
  simp [Post]
def CX (C : Ctx) (f : FuncId) (args : List Value) (h : Heap) (Q R : Value → Heap → Prop) : Prop :=
  (∃ v h', callF C (Lim C) f args h = some (.ret v h' none) ∧ Q v h') ∨ ∃ v h', callF C (Lim C) f args h = some (.panic v h') ∧ R v h'
def PostX (C : Ctx) (rs : List ResultVar) (Q R : Value → Heap → Prop) (r : FEnd) (s : FrS) (h' : Heap) : Prop := Post C rs Q r s h' ∨ ∃ v, r = .panic v ∧ s.defers = [] ∧ R v h'
theorem PostX_end (C : Ctx) (rs : List ResultVar) (Q R : Value → Heap → Prop) (n : Nat) (f : Nat → Value) (h : Heap) : PostX C rs Q R (.ended none) ⟨T n f, [], none⟩ h ↔ PR Q h (readResults C (T n f) h rs) := by
  simp [PostX, Post_end]
theorem PostX_panic (C : Ctx) (rs : List ResultVar) (Q R : Value → Heap → Prop) (v : Value) (n : Nat) (f : Nat → Value) (p : Option Value) (h : Heap) : PostX C rs Q R (.panic v) ⟨T n f, [], p⟩ h ↔ R v h := by
  simp [PostX, Post]
theorem CX_in {C : Ctx} {f : FuncId} (fn : Func) {c : Code} {args : List Value} {h : Heap} {Q R : Value → Heap → Prop} (hA : C.A f = none) (hF : C.F.get f = some fn) (hb : fn.body = some c) (hn : Nat.ble args.length fn.ntmps = true)
    (hw : W (Lim C none [.code c] ⟨T fn.ntmps (argsFn args), [], none⟩ h) (PostX C fn.results.toList Q R)) : CX C f args h Q R := by
  obtain ⟨r, s, h', e, hp | ⟨v, rfl, hd, hR⟩⟩ := hw
  · obtain ⟨v, h1, e1, q⟩ := CW_in (Q := Q) fn hA hF hb hn ⟨r, s, h', e, hp⟩
    exact .inl ⟨v, h1, e1, q⟩
  · refine .inr ⟨v, h', ?_, hR⟩
    rw [callF_go args h hA hF hb (Nat.le_of_ble_eq_true hn), e]
    simp only [finish, obind_some, endMode, hd]
    rfl
theorem W_callX {C : Ctx} {rd : Option Nat} {ops l : List Oper} {k : List Item} {dst : Option Tmp} {s : FrS} {h : Heap} {Q : FEnd → FrS → Heap → Prop} {f : FuncId} {args : List Value} {P R : Value → Heap → Prop}
    (hc : CX C f args h P R) (hw : ∀ v h', P v h' → W (RO C rd ops l k (s.put dst v) h') Q) (hr : ∀ v h', R v h' → Q (.panic v) s h') : W (ROc C rd ops l k dst s (callF C (Lim C) f args h)) Q := by
  rcases hc with ⟨v, h', e, hp⟩ | ⟨v, h', e, hp⟩
  · rw [e, ROc_ret]; exact hw v h' hp
  · rw [e, ROc_panic]; exact ⟨_, _, _, rfl, hr v h' hp⟩
theorem plain_of {C : Ctx} {g : FuncId} (fn : Func) {c : Code} {args : List Value} {pan : Option Value} {h : Heap} {Q : Value → Heap → Prop} (hF : C.F.get g = some fn) (hb : fn.body = some c) (hn : Nat.ble args.length fn.ntmps = true)
    (hw : W (Lim C none [.code c] ⟨T fn.ntmps (argsFn args), [], pan⟩ h) (Post C fn.results.toList Q)) : ∃ v h', callPlain C (Lim C) g args h pan = some (.ret v h' none) ∧ Q v h' := by
  obtain ⟨r, s, h', e, hr, hd, hp, hq⟩ := hw
  have hm : endMode r = some none := by rcases hr with rfl | rfl <;> rfl
  revert hq
  cases hrr : readResults C s.tmps h' fn.results.toList with
  | none => exact fun h => h.elim
  | some vs =>
    intro hq
    refine ⟨packResults vs, h', ?_, hq⟩
    unfold callPlain
    rw [hF]
    simp only [obind_some, bodyOf, hb, mkTmps_T args fn.ntmps (Nat.le_of_ble_eq_true hn), e, hd, noDefers, guardB_true, hm, endCall, hrr, hp]
theorem callF_defer {C : Ctx} {f g : FuncId} {fn : Func} {c : Code} {args : List Value} {h h1 h2 : Heap} {r : FEnd} {s : FrS} {m : Option Value} {cap ar : List Value} {v : Value} {vs : List Value} (hA : C.A f = none) (hF : C.F.get f = some fn) (hb : fn.body = some c) (hn : Nat.ble args.length fn.ntmps = true)
    (e : Lim C none [.code c] ⟨T fn.ntmps (argsFn args), [], none⟩ h = some (r, s, h1)) (hm : endMode r = some m) (hd : s.defers = [{ target := .fn (.func g) ⟨cap⟩, args := ⟨ar⟩ }]) (hp : s.pan = none) (hg : C.A g = none)
    (e2 : callPlain C (Lim C) g (ar ++ cap) h1 m = some (.ret v h2 none)) (hr : readResults C s.tmps h2 fn.results.toList = some vs) : callF C (Lim C) f args h = some (.ret (packResults vs) h2 none) := by
  rw [callF_go args h hA hF hb (Nat.le_of_ble_eq_true hn), e]
  simp only [finish, obind_some, hm, hd]
  have : runDefers C (Lim C) [{ target := .fn (.func g) ⟨cap⟩, args := ⟨ar⟩ }] m h1 = some (none, h2) := by
    show obind (runDefer1 C (Lim C) _ m h1) _ = _
    have e3 : runDefer1 C (Lim C) { target := .fn (.func g) ⟨cap⟩, args := ⟨ar⟩ } m h1 = some (none, h2) := by
      unfold runDefer1
      simp only [hg, e2, obind_some, retOf]
    rw [e3]
    rfl
  simp only [this, obind_some, hr, hp]
theorem append_N {C : Ctx} {t u : TypeId} {ts : List TypeId} {w : Nat} (ht : AppT C t u w) {N : Nat} {h1 : Heap} {out x : Value} {l new : List Value} {n m : Nat} (hk : HOK h1) (hN : N ≤ h1.next) (hp : 0 < h1.next) (q : SL N h1 out l w n)
    (hx : lenOfV x = some (m + 1)) (hc : sliceCells h1 w (m + 1) x = some new) (h1' : allOne new = true) (hl : new.length = (m + 1) * w) (hn : n + (m + 1) ≤ 4294967296) :
    ∃ h', aAppend C (t :: u :: ts) out x h1 = some (sliceTo w (n + (m + 1)) (n + (m + 1)) h1.next, h') ∧ SL N h' (sliceTo w (n + (m + 1)) (n + (m + 1)) h1.next) (l ++ new) w (n + (m + 1)) ∧ HOK h' ∧ h'.next = h1.next + 1 ∧ ∀ i, i < h1.next → blkOf out ≠ some i → h'.get i = h1.get i := by
  have f : Fr ⟨0, .nil⟩ h1 := ⟨hk, Nat.zero_le _, fun i hi => absurd hi (Nat.not_lt_zero _)⟩
  obtain ⟨h', e, q', f', n', g'⟩ := append_at (ts := ts) ht f hp (q.weak (Nat.zero_le _)) hx hc h1' hl hn
  refine ⟨h', e, ?_, f'.ok, n', g'⟩
  rcases q' with ⟨e', _⟩ | ⟨b, e', a1, a2, a3⟩
  · simp [sliceTo] at e'
  · refine .inr ⟨b, e', a1, ?_, a3⟩
    simp [sliceTo] at e'
    omega
def Rows (h : Heap) (us : List Value) (Y : List (List Int)) : Prop := us.length = Y.length ∧ ∀ (k : Nat) x, Y[k]? = some x → ∃ u, us[k]? = some u ∧ LS h u x ints 1
def unit (v : Value) : List Value := [v]
theorem unit_len (v : Value) : (unit v).length = 1 := rfl
theorem flat_unit (us : List Value) : us.flatMap unit = us := by
  induction us with
  | nil => rfl
  | cons u us ih => rw [List.flatMap_cons, ih]; rfl
section
variable {C : Ctx} {rd : Option Nat} {k : List Item} {s : FrS} {h : Heap} {Q : FEnd → FrS → Heap → Prop}
theorem L_range (f : Operand) (params : Array Tmp) (assign body : Code) : Lim C rd (.code (.rangeFunc f params assign body) :: k) s h = stRange C (Lim C) rd params.toList assign body k s h (ev s.tmps f) := by rw [Lim_eq]; rfl
theorem L_begin {l : Nat} {r : ALoop} (hg : h.get l = some (.loop r)) (hr : isReady r.state = true) : Lim C (some l) (.beginRound :: k) s h = Lim C (some l) k s (h.set l (.loop (r.turn .busy r.pending))) := by
  rw [Lim_eq]
  show stBegin (Lim C) (some l) k s h = _
  unfold stBegin
  simp only [obind_some, hg, loopOf, hr, guardB_true]
theorem W_range {g : FuncId} {first cap : List Value} {params : List Tmp} {assign body : Code} {P : Value → Heap → Prop}
    (hc : CW C g (first ++ [.func (.yield (h.next + 1)) ⟨[]⟩ ⟨[]⟩] ++ cap) ((h.alloc (.deferred true)).alloc (.loop (loopRec s.tmps params assign body h.next))) P)
    (hw : ∀ v h', P v h' → ∃ r, h'.get (h.next + 1) = some (.loop r) ∧ isBusy r.state = false ∧
      W (Lim C none (itemsOf r.pending k) (s.mark [{ target := .collected h.next, args := ⟨[]⟩ }]) (h'.set (h.next + 1) (.loop (r.turn .exhausted r.pending)))) Q) :
    W (stRange C (Lim C) none params assign body k s h (.func (.func g) ⟨first⟩ ⟨cap⟩)) Q := by
  obtain ⟨v, h', e, hp⟩ := hc
  obtain ⟨r, hg, hb, hw⟩ := hw v h' hp
  have : stRange C (Lim C) none params assign body k s h (.func (.func g) ⟨first⟩ ⟨cap⟩) = Lim C none (itemsOf r.pending k) (s.mark [{ target := .collected h.next, args := ⟨[]⟩ }]) (h'.set (h.next + 1) (.loop (r.turn .exhausted r.pending))) := by
    unfold stRange
    simp only [enterLoopA, obind_some, applyFn, e, afterRange, endLoopA, hg, loopOf, hb, Bool.not_false, guardB_true]
  rw [this]
  exact hw
theorem W_range' {g : FuncId} {first cap : List Value} {params : List Tmp} {assign body : Code} {P : ALoop → Value → Heap → Prop}
    (hc : ∀ R, R = loopRec s.tmps params assign body h.next → CW C g (first ++ [.func (.yield (h.next + 1)) ⟨[]⟩ ⟨[]⟩] ++ cap) ((h.alloc (.deferred true)).alloc (.loop R)) (P R))
    (hw : ∀ R, R = loopRec s.tmps params assign body h.next → ∀ v h', P R v h' → ∃ r, h'.get (h.next + 1) = some (.loop r) ∧ isBusy r.state = false ∧
      W (Lim C none (itemsOf r.pending k) (s.mark [{ target := .collected h.next, args := ⟨[]⟩ }]) (h'.set (h.next + 1) (.loop (r.turn .exhausted r.pending)))) Q) :
    W (stRange C (Lim C) none params assign body k s h (.func (.func g) ⟨first⟩ ⟨cap⟩)) Q := W_range (hc _ rfl) (hw _ rfl)
theorem V_yield (l : Nat) (args : List Value) : appV C (.func (.yield l) #[] #[]) args h = yieldTo (Lim C) l args h := by
  simp [appV, applyFn]
theorem yield_of {l : Nat} {args : List Value} {r : ALoop} {P : Bool → Heap → Prop} (hg : h.get l = some (.loop r)) (hn : args.length = r.params.length)
    (hw : W (Lim C (some l) [.code r.assign, .beginRound, .code r.body] ⟨setAll r.params args r.tmps, [], none⟩ h) fun e s h' => ∃ j x, e = .ended j ∧ s.defers = [] ∧ h'.get l = some (.loop x) ∧ P j.isNone (h'.set l (.loop (x.turn (stateBehind j) j)))) :
    ∃ b h', yieldTo (Lim C) l args h = some (.ret (.bool b) h' none) ∧ P b h' := by
  obtain ⟨e, s, h', ew, j, x, rfl, hd, hx, hp⟩ := hw
  refine ⟨_, _, ?_, hp⟩
  have hn' : Nat.beq args.length r.params.length = true := by rw [hn]; exact Nat.beq_refl _
  unfold yieldTo
  simp only [hg, obind_some, loopOf, hn', guardB_true, ew, yieldEnd, jumpOf, hd, noDefers, hx]
end
theorem mark_nil (τ : List (List Value)) (p : Option Value) (d : Deferred) : FrS.mark ⟨τ, [], p⟩ [d] = ⟨τ, [d], p⟩ := rfl
theorem items_none (k : List Item) : itemsOf none k = k := rfl
theorem Post_fin (C : Ctx) (rs : List ResultVar) (Q : Value → Heap → Prop) (n : Nat) (f : Nat → Value) (h : Heap) : Post C rs Q (.ended none) ⟨T n f, [], none⟩ h ↔ PR Q h (readResults C (T n f) h rs) := by
  simp [Post]
def PostO (C : Ctx) (rs : List ResultVar) (Q : Value → Heap → Prop) (r : FEnd) (s : FrS) (h' : Heap) : Prop := (r = .ended none ∨ r = .ended (some .ret)) ∧ s.pan = none ∧
  ((s.defers = [] ∧ PR Q h' (readResults C s.tmps h' rs)) ∨ ∃ b, s.defers = [{ target := .collected b, args := ⟨[]⟩ }] ∧ h'.get b = some (.deferred true) ∧ PR Q (h'.set b (.deferred false)) (readResults C s.tmps (h'.set b (.deferred false)) rs))
theorem PostO_retD (C : Ctx) (rs : List ResultVar) (Q : Value → Heap → Prop) (n : Nat) (f : Nat → Value) (h : Heap) (b : Nat) : PostO C rs Q (.ended (some .ret)) ⟨T n f, [{ target := .collected b, args := ⟨[]⟩ }], none⟩ h ↔ h.get b = some (.deferred true) ∧ PR Q (h.set b (.deferred false)) (readResults C (T n f) (h.set b (.deferred false)) rs) := by
  simp [PostO]
theorem CWo_in {C : Ctx} {f : FuncId} (fn : Func) {c : Code} {args : List Value} {h : Heap} {Q : Value → Heap → Prop} (hA : C.A f = none) (hF : C.F.get f = some fn) (hb : fn.body = some c) (hn : Nat.ble args.length fn.ntmps = true)
    (hw : W (Lim C none [.code c] ⟨T fn.ntmps (argsFn args), [], none⟩ h) (PostO C fn.results.toList Q)) : CW C f args h Q := by
  obtain ⟨r, s, h', e, h1, h2, h3⟩ := hw
  rcases h3 with ⟨h3, h4⟩ | ⟨b, hd, hg, hq⟩
  · exact CW_in fn hA hF hb hn ⟨r, s, h', e, h1, h3, h2, h4⟩
  · have hm : endMode r = some none := by rcases h1 with rfl | rfl <;> rfl
    revert hq
    cases hr : readResults C s.tmps (h'.set b (.deferred false)) fn.results.toList with
    | none => exact fun h => h.elim
    | some vs =>
      intro hq
      refine ⟨packResults vs, _, ?_, hq⟩
      rw [callF_go args h hA hF hb (Nat.le_of_ble_eq_true hn), e]
      simp only [finish, obind_some, hm, hd]
      have : runDefers C (Lim C) [{ target := .collected b, args := ⟨[]⟩ }] none h' = some (none, h'.set b (.deferred false)) := by
        show obind (runDefer1 C (Lim C) _ none h') _ = _
        have e3 : runDefer1 C (Lim C) { target := .collected b, args := ⟨[]⟩ } none h' = some (none, h'.set b (.deferred false)) := by
          unfold runDefer1
          simp only [hg, obind_some, isDeferred, guardB_true]
        rw [e3]; rfl
      simp only [this, obind_some, hr, h2]
structure Gr (X : Nat → Prop) (h h' : Heap) : Prop where
  ok : HOK h'
  next : h.next ≤ h'.next
  get : ∀ i, i < h.next → ¬ X i → h'.get i = h.get i
theorem Gr.refl {X : Nat → Prop} {h : Heap} (hk : HOK h) : Gr X h h := ⟨hk, Nat.le_refl _, fun _ _ _ => rfl⟩
theorem Gr.trans {X : Nat → Prop} {a b c : Heap} (h : Gr X a b) (h' : Gr X b c) : Gr X a c := ⟨h'.ok, Nat.le_trans h.next h'.next, fun i hi hx => (h'.get i (Nat.lt_of_lt_of_le hi h.next) hx).trans (h.get i hi hx)⟩
theorem Fr.gr {X : Nat → Prop} {h h' : Heap} (f : Fr h h') : Gr X h h' := ⟨f.ok, f.next, fun i hi _ => f.get i hi⟩
theorem Gr.fr {X : Nat → Prop} {h0 h h' : Heap} (g : Gr X h h') (f : Fr h0 h) (hx : ∀ i, X i → h0.next ≤ i) : Fr h0 h' :=
  ⟨g.ok, Nat.le_trans f.next g.next, fun i hi => (g.get i (Nat.lt_of_lt_of_le hi f.next) fun x => by have := hx i x; omega).trans (f.get i hi)⟩
theorem Gr.get' {X : Nat → Prop} {h h' : Heap} (g : Gr X h h') (hk : HOK h) {i : Nat} (hi : ¬ X i) {x : AObj} (hr : h.get i = some x) : h'.get i = some x := by rw [g.get i (get_lt hk hr) hi]; exact hr
theorem SL.low {N M : Nat} {h : Heap} {v : Value} {l : List Value} {s n : Nat} (q : SL N h v l s n) (hm : M ≤ N) : SL M h v l s n := by
  rcases q with q | ⟨b, e, h0, h1, h2, h3⟩
  · exact .inl q
  · exact .inr ⟨b, e, h0, by omega, h2, h3⟩
theorem W_callPX {C : Ctx} {rd : Option Nat} {ops : List Oper} {pl : List PE} {k : List Go.Item} {rs : List Rec} {dst : Option Tmp} {n : Nat} {f' : Nat → Value} {p : Option Value} {h : Heap} {Q : FEnd → FrS → Heap → Prop} {f : FuncId} {args : List Value} {P R : Value → Heap → Prop}
    (hc : CX C f args h P R) (hw : ∀ v h', P v h' → W (RP C rd ops pl k rs (FrS.put ⟨T n f', [], p⟩ dst v) h') Q) (hr : ∀ v h', R v h' → Q (.panic v) ⟨T n f', [], p⟩ h') : W (RPc C rd ops pl k rs dst ⟨T n f', [], p⟩ (callF C (Lim C) f args h)) Q := by
  rcases hc with ⟨v, h', e, hp⟩ | ⟨v, h', e, hp⟩
  · rw [e, RPc_ret]; exact hw v h' hp
  · rw [e, RPc_panic _ rfl]; exact ⟨_, _, _, rfl, hr v h' hp⟩
end Go.Am
