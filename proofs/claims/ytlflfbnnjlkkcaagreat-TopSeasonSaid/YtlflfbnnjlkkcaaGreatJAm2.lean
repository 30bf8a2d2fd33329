/- Parts Am2, Am3 of the abstract machine over this program, joined: what each part says stands at its head. -/
import Derived.Test.YtlflfbnnjlkkcaaGreatJAm1
import Derived.Laws.AppendOwn
import Derived.Laws.Cells
import Derived.Laws.BitsLemmas
set_option linter.unusedSimpArgs false
set_option linter.unusedVariables false
set_option linter.defProp false
namespace Go.Am
open Go
@[simp] theorem obind_some {α β : Type} (a : α) (f : α → Option β) : obind (some a) f = f a := rfl
@[simp] theorem obind_none {α β : Type} (f : α → Option β) : obind none f = none := rfl
@[simp] theorem guardB_true {β : Type} (x : Option β) : guardB true x = x := rfl
@[simp] theorem guardB_false {β : Type} (x : Option β) : guardB false x = none := rfl
theorem obind_eq {α β : Type} {o : Option α} {f : α → Option β} {b : β} (h : obind o f = some b) : ∃ a, o = some a ∧ f a = some b := by
  cases o with
  | none => simp at h
  | some a => exact ⟨a, rfl, h⟩
theorem guardB_eq {β : Type} {b : Bool} {x : Option β} {y : β} (h : guardB b x = some y) : b = true ∧ x = some y := by
  cases b with
  | false => simp at h
  | true => exact ⟨rfl, h⟩
theorem lrec_nil {α β : Type} (z : β) (c : α → List α → β → β) : lrec z c [] = z := rfl
theorem lrec_cons {α β : Type} (z : β) (c : α → List α → β → β) (a : α) (l : List α) : lrec z c (a :: l) = c a l (lrec z c l) := rfl
theorem nrec_zero {β : Type} (z : β) (s : Nat → β → β) : nrec z s 0 = z := rfl
theorem lget_eq {α : Type} (l : List α) : ∀ n, lget l n = l[n]? := by
  induction l with
  | nil => intro n; cases n <;> rfl
  | cons a l ih =>
    intro n
    cases n with
    | zero => rfl
    | succ n => exact (ih n).trans (by simp)
theorem lset_eq {α : Type} (l : List α) : ∀ n v, lset l n v = l.set n v := by
  induction l with
  | nil => intro n v; cases n <;> rfl
  | cons a l ih =>
    intro n v
    cases n with
    | zero => rfl
    | succ n => show a :: lset l n v = _; rw [ih n v]; rfl
theorem lgetD_eq {α : Type} (d : α) (l : List α) : ∀ n, lgetD d l n = l.getD n d := by
  induction l with
  | nil => intro n; cases n <;> rfl
  | cons a l ih =>
    intro n
    cases n with
    | zero => rfl
    | succ n => exact (ih n).trans (by simp)
def tin (τ : List (List Value)) (t : Nat) : Prop := t % 8 < (τ.getD (t / 8) []).length
theorem tget_eq (τ : List (List Value)) (t : Nat) : tget τ t = (τ.getD (t / 8) []).getD (t % 8) undef := by
  unfold tget; rw [lgetD_eq, lgetD_eq]; rfl
theorem tset_eq (τ : List (List Value)) (t : Nat) (v : Value) : tset τ t v = τ.set (t / 8) ((τ.getD (t / 8) []).set (t % 8) v) := by
  unfold tset; rw [lset_eq, lset_eq, lgetD_eq]; rfl
theorem getD_set_list {α : Type} (l : List α) (i j : Nat) (a d : α) : (l.set i a).getD j d = if i = j ∧ i < l.length then a else l.getD j d := by
  simp only [List.getD_eq_getElem?_getD, List.getElem?_set]
  by_cases h : i = j
  · subst h
    by_cases h2 : i < l.length
    · simp [h2]
    · simp [h2]
  · simp [h]
theorem tin_lt {τ : List (List Value)} {t : Nat} (h : tin τ t) : t / 8 < τ.length := by
  unfold tin at h
  rcases Nat.lt_or_ge (t / 8) τ.length with h1 | h1
  · exact h1
  · rw [List.getD_eq_getElem?_getD, List.getElem?_eq_none h1] at h; simp at h
theorem tget_tset_self {τ : List (List Value)} {t : Nat} (h : tin τ t) (v : Value) : tget (tset τ t v) t = v := by
  have h1 := tin_lt h
  rw [tget_eq, tset_eq, getD_set_list, if_pos ⟨rfl, h1⟩, getD_set_list, if_pos ⟨rfl, h⟩]
theorem tget_tset_ne (τ : List (List Value)) {t u : Nat} (h : t ≠ u) (v : Value) : tget (tset τ t v) u = tget τ u := by
  rw [tget_eq, tget_eq, tset_eq, getD_set_list]
  by_cases h1 : t / 8 = u / 8 ∧ t / 8 < τ.length
  · rw [if_pos h1, getD_set_list, if_neg (by omega), h1.1]
  · rw [if_neg h1]
theorem tin_tset (τ : List (List Value)) (t u : Nat) (v : Value) : tin (tset τ t v) u ↔ tin τ u := by
  unfold tin
  rw [tset_eq, getD_set_list]
  by_cases h1 : t / 8 = u / 8 ∧ t / 8 < τ.length
  · rw [if_pos h1, List.length_set, h1.1]
  · rw [if_neg h1]
theorem tset_out {τ : List (List Value)} {t : Nat} (h : ¬ tin τ t) (v : Value) (u : Nat) : tget (tset τ t v) u = tget τ u := by
  by_cases e : t = u
  · subst e
    rw [tget_eq, tget_eq, tset_eq, getD_set_list]
    by_cases h1 : t / 8 = t / 8 ∧ t / 8 < τ.length
    · rw [if_pos h1, getD_set_list, if_neg (by unfold tin at h; omega)]
    · rw [if_neg h1]
  · exact tget_tset_ne τ e v
theorem chunks_spec : ∀ (f : Nat) (l : List Value), l.length < f → ∀ t, ((chunks f l).getD (t / 8) []).getD (t % 8) undef = l.getD t undef ∧ (t % 8 < ((chunks f l).getD (t / 8) []).length ↔ t < l.length) := by
  intro f
  induction f with
  | zero => intro l h; omega
  | succ f ih =>
    intro l h t
    cases l with
    | nil => show (([] : List (List Value)).getD (t / 8) []).getD (t % 8) undef = _ ∧ (t % 8 < (([] : List (List Value)).getD (t / 8) []).length ↔ _); simp
    | cons a l =>
      have e : chunks (f + 1) (a :: l) = (a :: l).take 8 :: chunks f ((a :: l).drop 8) := rfl
      rw [e]
      generalize hL : a :: l = L at *
      have hlen : 0 < L.length := by rw [← hL]; simp
      by_cases ht : t < 8
      · have h0 : t / 8 = 0 := by omega
        have h1 : t % 8 = t := by omega
        rw [h0, h1]
        simp only [List.getD_eq_getElem?_getD, List.getElem?_cons_zero, Option.getD_some, List.getElem?_take, List.length_take]
        constructor
        · simp [ht]
        · omega
      · have h0 : t / 8 = (t - 8) / 8 + 1 := by omega
        have h1 : t % 8 = (t - 8) % 8 := by omega
        have := ih (L.drop 8) (by simp; omega) (t - 8)
        rw [h0, h1]
        simp only [List.getD_eq_getElem?_getD, List.getElem?_cons_succ] at this ⊢
        rw [this.1, this.2, List.getElem?_drop, List.length_drop]
        constructor
        · congr 2; omega
        · omega
theorem tget_mk (l : List Value) (t : Nat) : tget (mkTmps l) t = l.getD t undef := by
  rw [tget_eq]; exact (chunks_spec _ l (Nat.lt_succ_self _) t).1
theorem tin_mk (l : List Value) (t : Nat) : tin (mkTmps l) t ↔ t < l.length := (chunks_spec _ l (Nat.lt_succ_self _) t).2
structure Spot where
  blk : Nat
  base : Nat
  lim : Nat
  esz : Nat
abbrev Mu := Nat → Option Spot
def Mu.le (μ μ' : Mu) : Prop := ∀ i e, μ i = some e → μ' i = some e
theorem Mu.le.refl (μ : Mu) : μ.le μ := fun _ _ h => h
theorem Mu.le.trans {a b c : Mu} (h : a.le b) (h' : b.le c) : a.le c := fun _ _ x => h' _ _ (h _ _ x)
def Mu.upd (μ : Mu) (i : Nat) (e : Spot) : Mu := fun j => if j = i then some e else μ j
theorem Mu.upd_self (μ : Mu) (i : Nat) (e : Spot) : μ.upd i e i = some e := by simp [Mu.upd]
theorem Mu.upd_ne (μ : Mu) {i j : Nat} (e : Spot) (h : j ≠ i) : μ.upd i e j = μ j := by simp [Mu.upd, h]
theorem Mu.le_upd {μ : Mu} {i : Nat} (e : Spot) (h : μ i = none) : μ.le (μ.upd i e) := by
  intro j f hj
  by_cases e' : j = i
  · subst e'; rw [h] at hj; simp at hj
  · rw [Mu.upd_ne _ _ e']; exact hj
def ARel (μ : Mu) (a A : Addr) : Prop := A.spot = none ∧ ∃ e, μ a.block = some e ∧ A.block = e.blk ∧ A.off = e.base + a.off
inductive FnRel (μ : Mu) : Fn → Fn → Prop where
  | func (f : FuncId) : FnRel μ (.func f) (.func f)
  | method (n : String) : FnRel μ (.method n) (.method n)
  | yield (l : Nat) (e : Spot) (h : μ l = some e) : FnRel μ (.yield l) (.yield e.blk)
def SlRel (μ : Mu) (a A : Addr) (C : Nat) : Prop :=
  (a.block = 0 ∧ C = 0) ∨ (a.block ≠ 0 ∧ ∃ e, μ a.block = some e ∧ ((A.spot = none ∧ A.block = e.blk ∧ A.off = e.base + a.off ∧ (∀ s, a.spot = some s → s = e.esz ∧ a.off + C * s ≤ e.lim)) ∨ C = 0))
inductive VRel (μ : Mu) : Value → Value → Prop where
  | plain (v : Value) (h : cellPlain v = true) : VRel μ v v
  | ptr (a A : Addr) (h : ARel μ a A) : VRel μ (.pointer (some a)) (.pointer (some A))
  | slice (a A : Addr) (n c C : Nat) (hc : c ≤ C) (hn : n ≤ C) (h : SlRel μ a A C) : VRel μ (.slice (some a) n c) (.slice (some A) n C)
  | map (r : Nat) (e : Spot) (h : μ r = some e) : VRel μ (.map (some r)) (.map (some e.blk))
  | func (f g : Fn) (xs Xs ys Ys : Array Value) (hf : FnRel μ f g) (hx : xs.toList.length = Xs.toList.length) (hy : ys.toList.length = Ys.toList.length)
      (h1 : ∀ (i : Nat) (x X : Value), xs.toList[i]? = some x → Xs.toList[i]? = some X → VRel μ x X) (h2 : ∀ (i : Nat) (x X : Value), ys.toList[i]? = some x → Ys.toList[i]? = some X → VRel μ x X) :
      VRel μ (.func f xs ys) (.func g Xs Ys)
  | iface (t : TypeId) (v V : Value) (h : VRel μ v V) : VRel μ (.iface t v) (.iface t V)
  | agg (xs Xs : Array Value) (hx : xs.toList.length = Xs.toList.length) (h1 : ∀ (i : Nat) (x X : Value), xs.toList[i]? = some x → Xs.toList[i]? = some X → VRel μ x X) : VRel μ (.agg xs) (.agg Xs)
  | tuple (xs Xs : Array Value) (hx : xs.toList.length = Xs.toList.length) (h1 : ∀ (i : Nat) (x X : Value), xs.toList[i]? = some x → Xs.toList[i]? = some X → VRel μ x X) : VRel μ (.tuple xs) (.tuple Xs)
theorem FnRel.mono {μ μ' : Mu} (hle : μ.le μ') {f g : Fn} (h : FnRel μ f g) : FnRel μ' f g := by
  cases h with
  | func f => exact .func f
  | method n => exact .method n
  | yield l e h => exact .yield l e (hle _ _ h)
theorem VRel.mono {μ μ' : Mu} (hle : μ.le μ') {v V : Value} (h : VRel μ v V) : VRel μ' v V := by
  induction h with
  | plain v h => exact .plain v h
  | ptr a A h => obtain ⟨h1, e, h2, h3⟩ := h; exact .ptr a A ⟨h1, e, hle _ _ h2, h3⟩
  | slice a A n c C hc hn h =>
    refine .slice a A n c C hc hn ?_
    rcases h with h | ⟨h1, e, h2, h3⟩
    · exact .inl h
    · exact .inr ⟨h1, e, hle _ _ h2, h3⟩
  | map r e h => exact .map r e (hle _ _ h)
  | func f g xs Xs ys Ys hf hx hy _ _ ih1 ih2 => exact .func f g xs Xs ys Ys (hf.mono hle) hx hy ih1 ih2
  | iface t v V _ ih => exact .iface t v V ih
  | agg xs Xs hx _ ih => exact .agg xs Xs hx ih
  | tuple xs Xs hx _ ih => exact .tuple xs Xs hx ih
def VRels (μ : Mu) (l L : List Value) : Prop := l.length = L.length ∧ ∀ (i : Nat) (x X : Value), l[i]? = some x → L[i]? = some X → VRel μ x X
namespace VRels
variable {μ : Mu}
theorem mono {μ' : Mu} (hle : μ.le μ') {l L : List Value} (h : VRels μ l L) : VRels μ' l L := ⟨h.1, fun i x X a b => (h.2 i x X a b).mono hle⟩
theorem nil : VRels μ [] [] := ⟨rfl, fun i x X a _ => by simp at a⟩
theorem cons {v V : Value} {l L : List Value} (h : VRel μ v V) (hs : VRels μ l L) : VRels μ (v :: l) (V :: L) := by
  refine ⟨by simp [hs.1], fun i x X a b => ?_⟩
  cases i with
  | zero => simp at a b; subst a; subst b; exact h
  | succ i => simp at a b; exact hs.2 i x X a b
theorem nil_inv {L : List Value} (h : VRels μ [] L) : L = [] := by
  have := h.1; simp at this; exact List.eq_nil_of_length_eq_zero this.symm
theorem cons_inv {v : Value} {l L : List Value} (h : VRels μ (v :: l) L) : ∃ V L', L = V :: L' ∧ VRel μ v V ∧ VRels μ l L' := by
  cases L with
  | nil => have := h.1; simp at this
  | cons V L =>
    refine ⟨V, L, rfl, h.2 0 v V rfl rfl, ?_, fun i x X a b => h.2 (i + 1) x X (by simpa using a) (by simpa using b)⟩
    have := h.1; simpa using this
theorem append {l L m M : List Value} (h : VRels μ l L) (h' : VRels μ m M) : VRels μ (l ++ m) (L ++ M) := by
  refine ⟨by simp [h.1, h'.1], fun i x X a b => ?_⟩
  rw [List.getElem?_append] at a b
  by_cases hi : i < l.length
  · rw [if_pos hi] at a; rw [if_pos (h.1 ▸ hi)] at b; exact h.2 i x X a b
  · rw [if_neg hi] at a; rw [if_neg (h.1 ▸ hi)] at b; rw [← h.1] at b; exact h'.2 _ x X a b
theorem take {l L : List Value} (h : VRels μ l L) (n : Nat) : VRels μ (l.take n) (L.take n) := by
  refine ⟨by simp [h.1], fun i x X a b => ?_⟩
  rw [List.getElem?_take] at a b
  by_cases hi : i < n
  · rw [if_pos hi] at a b; exact h.2 i x X a b
  · rw [if_neg hi] at a; simp at a
theorem drop {l L : List Value} (h : VRels μ l L) (n : Nat) : VRels μ (l.drop n) (L.drop n) := by
  refine ⟨by simp [h.1], fun i x X a b => ?_⟩
  rw [List.getElem?_drop] at a b
  exact h.2 _ x X a b
theorem get {l L : List Value} (h : VRels μ l L) {i : Nat} {x : Value} (hx : l[i]? = some x) : ∃ X, L[i]? = some X ∧ VRel μ x X := by
  have hi : i < l.length := by
    rcases Nat.lt_or_ge i l.length with h | h
    · exact h
    · rw [List.getElem?_eq_none h] at hx; simp at hx
  have hL : i < L.length := h.1 ▸ hi
  exact ⟨L[i], List.getElem?_eq_getElem hL, h.2 i x _ hx (List.getElem?_eq_getElem hL)⟩
theorem set {l L : List Value} (h : VRels μ l L) (i : Nat) {v V : Value} (hv : VRel μ v V) : VRels μ (l.set i v) (L.set i V) := by
  refine ⟨by simp [h.1], fun j x X a b => ?_⟩
  rw [List.getElem?_set] at a b
  by_cases hi : i = j
  · rw [if_pos hi] at a b
    by_cases h2 : i < l.length
    · rw [if_pos h2] at a; rw [if_pos (h.1 ▸ h2)] at b; simp at a b; subst a; subst b; exact hv
    · rw [if_neg h2] at a; simp at a
  · rw [if_neg hi] at a b; exact h.2 j x X a b
theorem plain {l : List Value} (h : l.all cellPlain = true) : VRels μ l l := by
  refine ⟨rfl, fun i x X a b => ?_⟩
  rw [a] at b; simp at b; subst b
  exact .plain x (List.all_eq_true.1 h x (List.mem_of_getElem? a))
theorem map {α : Type} {l : List α} {f g : α → Value} (h : ∀ a ∈ l, VRel μ (f a) (g a)) : VRels μ (l.map f) (l.map g) := by
  refine ⟨by simp, fun i x X a b => ?_⟩
  rw [List.getElem?_map] at a b
  cases hi : l[i]? with
  | none => rw [hi] at a; simp at a
  | some y => rw [hi] at a b; simp at a b; subst a; subst b; exact h y (List.mem_of_getElem? hi)
end VRels
namespace VRel
variable {μ : Mu}
theorem agg' {l : List Value} {L : List Value} (h : VRels μ l L) : VRel μ (mkAgg l) (.agg ⟨L⟩) := .agg _ _ h.1 h.2
theorem tup' {l : List Value} {L : List Value} (h : VRels μ l L) : VRel μ (mkTup l) (.tuple ⟨L⟩) := .tuple _ _ h.1 h.2
theorem bool_inv {b : Bool} {V : Value} (h : VRel μ (.bool b) V) : V = .bool b := by cases h; rfl
theorem int_inv {k : IntKind} {n : Int} {V : Value} (h : VRel μ (.int k n) V) : V = .int k n := by cases h; rfl
theorem string_inv {s : ByteArray} {V : Value} (h : VRel μ (.string s) V) : V = .string s := by cases h; rfl
theorem ptr_inv {a : Addr} {V : Value} (h : VRel μ (.pointer (some a)) V) : ∃ A, V = .pointer (some A) ∧ ARel μ a A := by
  cases h with
  | plain _ h => simp [cellPlain] at h
  | ptr a A h => exact ⟨A, rfl, h⟩
theorem nilptr_inv {V : Value} (h : VRel μ (.pointer none) V) : V = .pointer none := by cases h; rfl
theorem nilslice_inv {n c : Nat} {V : Value} (h : VRel μ (.slice none n c) V) : V = .slice none n c := by cases h; rfl
theorem slice_inv {a : Addr} {n c : Nat} {V : Value} (h : VRel μ (.slice (some a) n c) V) : ∃ A C, V = .slice (some A) n C ∧ c ≤ C ∧ n ≤ C ∧ SlRel μ a A C := by
  cases h with
  | plain _ h => simp [cellPlain] at h
  | slice a A n c C hc hn h => exact ⟨A, C, rfl, hc, hn, h⟩
theorem nilmap_inv {V : Value} (h : VRel μ (.map none) V) : V = .map none := by cases h; rfl
theorem map_inv {r : Nat} {V : Value} (h : VRel μ (.map (some r)) V) : ∃ e, V = .map (some e.blk) ∧ μ r = some e := by
  cases h with
  | plain _ h => simp [cellPlain] at h
  | map r e h => exact ⟨e, rfl, h⟩
theorem nilFunc_inv {V : Value} (h : VRel μ .nilFunc V) : V = .nilFunc := by cases h; rfl
theorem nilIface_inv {V : Value} (h : VRel μ .nilIface V) : V = .nilIface := by cases h; rfl
theorem iface_inv {t : TypeId} {v V : Value} (h : VRel μ (.iface t v) V) : ∃ U, V = .iface t U ∧ VRel μ v U := by
  cases h with
  | plain _ h => simp [cellPlain] at h
  | iface t v V h => exact ⟨V, rfl, h⟩
theorem agg_inv {xs : Array Value} {V : Value} (h : VRel μ (.agg xs) V) : ∃ Xs, V = .agg Xs ∧ VRels μ xs.toList Xs.toList := by
  cases h with
  | plain _ h => simp [cellPlain] at h
  | agg xs Xs hx h1 => exact ⟨Xs, rfl, hx, h1⟩
theorem tuple_inv {xs : Array Value} {V : Value} (h : VRel μ (.tuple xs) V) : ∃ Xs, V = .tuple Xs ∧ VRels μ xs.toList Xs.toList := by
  cases h with
  | plain _ h => simp [cellPlain] at h
  | tuple xs Xs hx h1 => exact ⟨Xs, rfl, hx, h1⟩
theorem func_inv {f : Fn} {xs ys : Array Value} {V : Value} (h : VRel μ (.func f xs ys) V) :
    ∃ g Xs Ys, V = .func g Xs Ys ∧ FnRel μ f g ∧ VRels μ xs.toList Xs.toList ∧ VRels μ ys.toList Ys.toList := by
  cases h with
  | plain _ h => simp [cellPlain] at h
  | func f g xs Xs ys Ys hf hx hy h1 h2 => exact ⟨g, Xs, Ys, rfl, hf, ⟨hx, h1⟩, hy, h2⟩
theorem undef' : VRel μ undef undef := .tuple _ _ rfl (fun i x X a _ => by simp at a)
theorem func' {f g : Fn} {xs Xs ys Ys : List Value} (hf : FnRel μ f g) (hx : VRels μ xs Xs) (hy : VRels μ ys Ys) : VRel μ (.func f ⟨xs⟩ ⟨ys⟩) (.func g ⟨Xs⟩ ⟨Ys⟩) :=
  .func _ _ _ _ _ _ hf hx.1 hy.1 hx.2 hy.2
theorem cells {v V : Value} (h : VRel μ v V) : VRels μ (cellsOf v) V.cells.toList := by
  cases v with
  | agg xs => obtain ⟨Xs, rfl, hs⟩ := h.agg_inv; exact hs
  | _ =>
    first
      | (have := h.bool_inv; subst this; exact .cons h .nil)
      | (cases h <;> first | exact .cons (by first | exact .plain _ ‹_› | exact .ptr _ _ ‹_› | exact .slice _ _ _ _ _ ‹_› ‹_› ‹_› | exact .map _ _ ‹_› | exact .iface _ _ _ ‹_› | exact .tuple _ _ ‹_› ‹_› | exact .func _ _ _ _ _ _ ‹_› ‹_› ‹_› ‹_› ‹_›) .nil)
theorem ofPlain {v : Value} (h : Go.Am.plain v = true) : VRel μ v v := by
  cases v with
  | agg cs => exact .agg' (VRels.plain h)
  | _ => exact .plain _ h
end VRel
def TRel (μ : Mu) (τ : List (List Value)) (T : Array Value) : Prop := ∀ t, VRel μ (tget τ t) (T.getD t undef) ∧ (tin τ t ↔ t < T.size)
theorem TRel.mono {μ μ' : Mu} (hle : μ.le μ') {τ : List (List Value)} {T : Array Value} (h : TRel μ τ T) : TRel μ' τ T := fun t => ⟨(h t).1.mono hle, (h t).2⟩
theorem TRel.mk' {μ : Mu} {l : List Value} {L : Array Value} (h : VRels μ l L.toList) : TRel μ (mkTmps l) L := by
  intro t
  rw [tget_mk, tin_mk]
  refine ⟨?_, by rw [h.1]; simp⟩
  rw [List.getD_eq_getElem?_getD, Array.getD_eq_getD_getElem?]
  cases hx : l[t]? with
  | none =>
    have : L[t]? = none := by
      rw [← Array.getElem?_toList]
      rw [List.getElem?_eq_none_iff] at hx ⊢
      rw [← h.1]; exact hx
    rw [this]; exact .undef'
  | some x =>
    obtain ⟨X, hX, hr⟩ := h.get hx
    rw [Array.getElem?_toList] at hX
    rw [hX]; exact hr
theorem TRel.set {μ : Mu} {τ : List (List Value)} {T : Array Value} (h : TRel μ τ T) (d : Nat) {v V : Value} (hv : VRel μ v V) : TRel μ (tset τ d v) (T.setIfInBounds d V) := by
  intro t
  rw [tin_tset, Array.size_setIfInBounds]
  refine ⟨?_, (h t).2⟩
  rw [Array.getD_eq_getD_getElem?, Array.getElem?_setIfInBounds]
  by_cases hin : tin τ d
  · have hd := (h d).2.1 hin
    by_cases e : d = t
    · subst e; rw [tget_tset_self hin, if_pos rfl, if_pos hd]; exact hv
    · rw [tget_tset_ne τ e, if_neg e, ← Array.getD_eq_getD_getElem?]; exact (h t).1
  · rw [tset_out hin]
    by_cases e : d = t
    · subst e
      have hd : ¬ d < T.size := fun h' => hin ((h d).2.2 h')
      rw [if_pos rfl, if_neg hd]
      have := (h d).1
      rw [Array.getD_eq_getD_getElem?, Array.getElem?_eq_none (by omega)] at this
      exact this
    · rw [if_neg e, ← Array.getD_eq_getD_getElem?]; exact (h t).1
end Go.Am

namespace Go.Am
open Go
structure Quiet (w w' : World) : Prop where
  os : w'.os = w.os
  output : w'.output = w.output
  heap : w'.heap = w.heap
structure Turned (w w' : World) (b : Nat) (o : Obj) : Prop where
  os : w'.os = w.os
  output : w'.output = w.output
  size : w'.heap.size = w.heap.size
  here : w'.heap[b]? = some o
  other : ∀ j, j ≠ b → w'.heap[j]? = w.heap[j]?
structure Grew (w w' : World) (o : Obj) : Prop where
  os : w'.os = w.os
  output : w'.output = w.output
  size : w'.heap.size = w.heap.size + 1
  here : w'.heap[w.heap.size]? = some o
  other : ∀ j, j < w.heap.size → w'.heap[j]? = w.heap[j]?
theorem Quiet.refl (w : World) : Quiet w w := ⟨rfl, rfl, rfl⟩
theorem Quiet.drew (w : World) : Quiet w w.drew := ⟨rfl, rfl, rfl⟩
theorem Grew.alloc (w : World) (o : Obj) : Grew w (w.alloc o) o := ⟨rfl, rfl, by simp, heap_alloc_new w o, heap_alloc_old w o⟩
theorem Grew.drew_alloc (w : World) (o : Obj) : Grew w (w.drew.alloc o) o := ⟨rfl, rfl, by simp, heap_alloc_new w.drew o, heap_alloc_old w.drew o⟩
theorem Turned.setRow {w : World} {g : Nat} {cur cs : Array Value} {t : TypeId} {fr : Nat × Nat} (hg : w.heap[g]? = some (.cells cur t fr)) : Turned w (w.setRow g cs) g (.cells cs t fr) :=
  ⟨rfl, rfl, by simp, setRow_heap w g cur cs t fr hg, fun j h => setRow_other w g j cs h⟩
theorem Turned.setObj {w : World} {r : Nat} {o p : Obj} (hr : w.heap[r]? = some p) : Turned w { w with heap := w.heap.setIfInBounds r o } r o := by
  have hlt : r < w.heap.size := (Array.getElem?_eq_some_iff.1 hr).1
  refine ⟨rfl, rfl, by simp, by simp [hlt], fun j h => ?_⟩
  simp only [Array.getElem?_setIfInBounds]
  rw [if_neg (fun e => h e.symm)]
def AObj.own : AObj → Bool
  | .row _ _ o => o
  | .dead => false
  | _ => true
def AObj.live : AObj → Bool
  | .dead => false
  | _ => true
def ERels (μ : Mu) (es ES : List MapEntry) : Prop :=
  es.length = ES.length ∧ ∀ (i : Nat) (e E : MapEntry), es[i]? = some e → ES[i]? = some E → E.key = e.key ∧ E.born = e.born ∧ VRel μ e.val E.val
theorem ERels.mono {μ μ' : Mu} (hle : μ.le μ') {es ES : List MapEntry} (h : ERels μ es ES) : ERels μ' es ES :=
  ⟨h.1, fun i e E a b => ⟨(h.2 i e E a b).1, (h.2 i e E a b).2.1, (h.2 i e E a b).2.2.mono hle⟩⟩
structure LRel (good : Code → Prop) (μ : Mu) (r : ALoop) (L : Loop) : Prop where
  state : L.state = r.state
  pending : L.pending = r.pending
  tmps : TRel μ r.tmps L.tmps
  params : L.params.toList = r.params
  assign : L.assign = r.assign
  body : L.body = r.body
  goodA : good r.assign
  goodB : good r.body
  goodP : ∀ c, r.pending = some c → good c
  defers : ∃ e, μ r.defers = some e ∧ L.defers = e.blk
theorem LRel.mono {good : Code → Prop} {μ μ' : Mu} (hle : μ.le μ') {r : ALoop} {L : Loop} (h : LRel good μ r L) : LRel good μ' r L :=
  { h with tmps := h.tmps.mono hle, defers := let ⟨e, a, b⟩ := h.defers; ⟨e, hle _ _ a, b⟩ }
def noFrozen (C : Array Value) (fz : Nat × Nat) : Prop := ∀ i, i < C.size → ¬ (fz.1 ≤ i ∧ i < fz.2)
def ORel (good : Code → Prop) (N0 : Nat) (μ : Mu) (e : Spot) (o : AObj) (O : Option Obj) : Prop :=
  match o with
  | .row cells esz own => ∃ C el fz, O = some (.cells C el fz) ∧ e.base + e.lim ≤ C.size ∧ cells.length ≤ e.lim ∧ esz = e.esz ∧
      VRels μ cells ((C.toList.drop e.base).take cells.length) ∧ (own = true → N0 ≤ e.blk ∧ noFrozen C fz)
  | .dead => True
  | .map es c => N0 ≤ e.blk ∧ ∃ ES, O = some (.map ES c) ∧ ERels μ es ES.toList
  | .iter s p => N0 ≤ e.blk ∧ O = some (.stringIter s p) ∧ e.base = 0
  | .loop r => N0 ≤ e.blk ∧ ∃ L, O = some (.loop L) ∧ LRel good μ r L
  | .deferred b => N0 ≤ e.blk ∧ O = some (.deferred (if b then some [] else none))
theorem ORel.mono {good : Code → Prop} {N0 : Nat} {μ μ' : Mu} (hle : μ.le μ') {e : Spot} {o : AObj} {O : Option Obj} (h : ORel good N0 μ e o O) : ORel good N0 μ' e o O := by
  cases o with
  | row cells esz own => obtain ⟨C, el, fz, h1, h2, h3, h4, h5, h6⟩ := h; exact ⟨C, el, fz, h1, h2, h3, h4, h5.mono hle, h6⟩
  | dead => trivial
  | map es c => obtain ⟨h1, ES, h2, h3⟩ := h; exact ⟨h1, ES, h2, h3.mono hle⟩
  | iter s p => exact h
  | loop r => obtain ⟨h1, L, h2, h3⟩ := h; exact ⟨h1, L, h2, h3.mono hle⟩
  | deferred b => exact h
theorem ORel.own_ge {good : Code → Prop} {N0 : Nat} {μ : Mu} {e : Spot} {o : AObj} {O : Option Obj} (h : ORel good N0 μ e o O) (ho : o.own = true) : N0 ≤ e.blk := by
  cases o with
  | row cells esz own => obtain ⟨C, el, fz, _, _, _, _, _, h6⟩ := h; exact (h6 ho).1
  | dead => simp [AObj.own] at ho
  | map es c => exact h.1
  | iter s p => exact h.1
  | loop r => exact h.1
  | deferred b => exact h.1
theorem ORel.some {good : Code → Prop} {N0 : Nat} {μ : Mu} {e : Spot} {o : AObj} {O : Option Obj} (h : ORel good N0 μ e o O) (ho : o.live = true) : ∃ X, O = some X := by
  cases o with
  | row cells esz own => obtain ⟨C, el, fz, h1, _⟩ := h; exact ⟨_, h1⟩
  | dead => simp [AObj.live] at ho
  | map es c => obtain ⟨_, ES, h2, _⟩ := h; exact ⟨_, h2⟩
  | iter s p => exact ⟨_, h.2.1⟩
  | loop r => obtain ⟨_, L, h2, _⟩ := h; exact ⟨_, h2⟩
  | deferred b => exact ⟨_, h.2⟩
structure HRel (good : Code → Prop) (w0 : World) (μ : Mu) (h : Heap) (w : World) : Prop where
  os : w.os = w0.os
  output : w.output = w0.output
  size : w0.heap.size ≤ w.heap.size
  old : ∀ b, b < w0.heap.size → w.heap[b]? = w0.heap[b]?
  dom : ∀ i e, μ i = some e → i < h.next ∧ i ≠ 0
  pos : 0 < h.next
  obj : ∀ i e o, μ i = some e → h.get i = some o → ORel good w0.heap.size μ e o w.heap[e.blk]?
  inj : ∀ i j e f o p, i ≠ j → μ i = some e → μ j = some f → h.get i = some o → h.get j = some p → o.own = true → p.live = true → e.blk ≠ f.blk
section
variable {good : Code → Prop} {w0 : World} {μ : Mu} {h : Heap} {w w' : World}
theorem HRel.quiet (H : HRel good w0 μ h w) (q : Quiet w w') : HRel good w0 μ h w' :=
  { H with os := q.os.trans H.os, output := q.output.trans H.output, size := by rw [q.heap]; exact H.size, old := fun b hb => by rw [q.heap]; exact H.old b hb,
           obj := fun i e o a b => by rw [q.heap]; exact H.obj i e o a b }
theorem HRel.fresh (H : HRel good w0 μ h w) : μ h.next = none := by
  cases e : μ h.next with
  | none => rfl
  | some x => have := (H.dom _ _ e).1; omega
theorem HRel.allocA (H : HRel good w0 μ h w) (o : AObj) : HRel good w0 μ (h.alloc o) w := by
  have hf := H.fresh
  have ne : ∀ i e, μ i = some e → i ≠ h.next := fun i e a b => by rw [b, hf] at a; simp at a
  refine { H with dom := fun i e a => ⟨by have := (H.dom i e a).1; simp; omega, (H.dom i e a).2⟩, pos := by simp, obj := ?_, inj := ?_ }
  · intro i e p a b
    rw [Heap.get_alloc_ne _ _ (ne i e a)] at b
    exact H.obj i e p a b
  · intro i j e f o' p hij a b c d
    rw [Heap.get_alloc_ne _ _ (ne i e a)] at c
    rw [Heap.get_alloc_ne _ _ (ne j f b)] at d
    exact H.inj i j e f o' p hij a b c d
theorem HRel.turned (H : HRel good w0 μ h w) {i : Nat} {e : Spot} {o o' : AObj} {O' : Obj} (hi : μ i = some e) (ho : h.get i = some o) (hown : o.own = true) (hlive : o.live = true)
    (t : Turned w w' e.blk O') (hr : ORel good w0.heap.size μ e o' (some O')) : HRel good w0 μ (h.set i o') w' := by
  have hge := (H.obj i e o hi ho).own_ge hown
  refine { os := t.os.trans H.os, output := t.output.trans H.output, size := by rw [t.size]; exact H.size, old := fun b hb => (t.other b (by omega)).trans (H.old b hb), dom := fun j f a => H.dom j f a, pos := H.pos, obj := ?_, inj := ?_ }
  · intro j f p a b
    rw [Heap.get_set] at b
    by_cases hj : j = i
    · subst hj; rw [if_pos rfl] at b; rw [hi] at a; cases a; cases b; rw [t.here]; exact hr
    · rw [if_neg hj] at b
      have hp := H.obj j f p a b
      cases hl : p.live with
      | false => cases p <;> first | trivial | simp [AObj.live] at hl
      | true => rw [t.other f.blk (fun eq => H.inj i j e f o p (fun x => hj x.symm) hi a ho b hown hl eq.symm)]; exact hp
  · intro j k f g p q hjk a b c d pown qlive
    rw [Heap.get_set] at c d
    by_cases hj : j = i
    · subst hj
      rw [if_neg (fun x => hjk x.symm)] at d
      exact H.inj j k f g o q hjk a b ho d hown qlive
    · rw [if_neg hj] at c
      by_cases hk : k = i
      · subst hk
        exact H.inj j k f g p o hjk a b c ho pown hlive
      · rw [if_neg hk] at d
        exact H.inj j k f g p q hjk a b c d pown qlive
theorem HRel.grew (H : HRel good w0 μ h w) {i : Nat} {o : AObj} {O : Obj} (lim esz : Nat) (hi : μ i = none) (hi0 : i ≠ 0) (hlt : i < h.next) (ho : h.get i = some o) (g : Grew w w' O)
    (hr : ORel good w0.heap.size (μ.upd i ⟨w.heap.size, 0, lim, esz⟩) ⟨w.heap.size, 0, lim, esz⟩ o (some O)) : HRel good w0 (μ.upd i ⟨w.heap.size, 0, lim, esz⟩) h w' := by
  have hle := Mu.le_upd (μ := μ) (i := i) ⟨w.heap.size, 0, lim, esz⟩ hi
  have blt : ∀ j f p, μ j = some f → h.get j = some p → p.live = true → f.blk < w.heap.size := by
    intro j f p a b l
    obtain ⟨X, hX⟩ := (H.obj j f p a b).some l
    exact (Array.getElem?_eq_some_iff.1 hX).1
  refine { os := g.os.trans H.os, output := g.output.trans H.output, size := by have := g.size; have := H.size; omega, old := fun b hb => (g.other b (by have := H.size; omega)).trans (H.old b hb), dom := ?_, pos := H.pos, obj := ?_, inj := ?_ }
  · intro j f a
    by_cases hj : j = i
    · subst hj; exact ⟨hlt, hi0⟩
    · rw [Mu.upd_ne _ _ hj] at a; exact H.dom j f a
  · intro j f p a b
    by_cases hj : j = i
    · subst hj; rw [Mu.upd_self] at a; cases a; rw [ho] at b; cases b; rw [g.here]; exact hr
    · rw [Mu.upd_ne _ _ hj] at a
      cases hl : p.live with
      | false => cases p <;> first | trivial | simp [AObj.live] at hl
      | true => rw [g.other _ (blt j f p a b hl)]; exact (H.obj j f p a b).mono hle
  · intro j k f f' p q hjk a b c d pown qlive
    by_cases hj : j = i
    · subst hj
      rw [Mu.upd_self] at a; cases a
      rw [Mu.upd_ne _ _ (fun x => hjk x.symm)] at b
      have := blt k f' q b d qlive
      dsimp only; omega
    · rw [Mu.upd_ne _ _ hj] at a
      by_cases hk : k = i
      · subst hk
        rw [Mu.upd_self] at b; cases b
        have := blt j f p a c (by cases p <;> first | rfl | simp [AObj.own] at pown)
        dsimp only; omega
      · rw [Mu.upd_ne _ _ hk] at b
        exact H.inj j k f f' p q hjk a b c d pown qlive
theorem HRel.kill (H : HRel good w0 μ h w) (i : Nat) : HRel good w0 μ (h.set i .dead) w := by
  refine { H with dom := fun j f a => H.dom j f a, pos := H.pos, obj := ?_, inj := ?_ }
  · intro j f p a b
    rw [Heap.get_set] at b
    by_cases hj : j = i
    · rw [if_pos hj] at b; cases b; trivial
    · rw [if_neg hj] at b; exact H.obj j f p a b
  · intro j k f g p q hjk a b c d pown qlive
    rw [Heap.get_set] at c d
    by_cases hj : j = i
    · rw [if_pos hj] at c; cases c; simp [AObj.own] at pown
    · rw [if_neg hj] at c
      by_cases hk : k = i
      · rw [if_pos hk] at d; cases d; simp [AObj.live] at qlive
      · rw [if_neg hk] at d; exact H.inj j k f g p q hjk a b c d pown qlive
theorem HRel.adopt (H : HRel good w0 μ h w) {i : Nat} {o : AObj} (e : Spot) (hi : μ i = none) (hi0 : i ≠ 0) (hlt : i < h.next) (ho : h.get i = some o)
    (hfree : ∀ j f p, μ j = some f → h.get j = some p → p.live = true → f.blk ≠ e.blk) (hr : ORel good w0.heap.size (μ.upd i e) e o w.heap[e.blk]?) : HRel good w0 (μ.upd i e) h w := by
  have hle := Mu.le_upd (μ := μ) (i := i) e hi
  refine { H with dom := ?_, pos := H.pos, obj := ?_, inj := ?_ }
  · intro j f a
    by_cases hj : j = i
    · subst hj; exact ⟨hlt, hi0⟩
    · rw [Mu.upd_ne _ _ hj] at a; exact H.dom j f a
  · intro j f p a b
    by_cases hj : j = i
    · subst hj; rw [Mu.upd_self] at a; cases a; rw [ho] at b; cases b; exact hr
    · rw [Mu.upd_ne _ _ hj] at a; exact (H.obj j f p a b).mono hle
  · intro j k f f' p q hjk a b c d pown qlive
    by_cases hj : j = i
    · subst hj
      rw [Mu.upd_self] at a; cases a
      rw [Mu.upd_ne _ _ (fun x => hjk x.symm)] at b
      exact fun eq => hfree k f' q b d qlive eq.symm
    · rw [Mu.upd_ne _ _ hj] at a
      by_cases hk : k = i
      · subst hk
        rw [Mu.upd_self] at b; cases b
        exact hfree j f p a c (by cases p <;> first | rfl | simp [AObj.own] at pown)
      · rw [Mu.upd_ne _ _ hk] at b
        exact H.inj j k f f' p q hjk a b c d pown qlive
theorem HRel.row (H : HRel good w0 μ h w) {i : Nat} {e : Spot} {cells : List Value} (hi : μ i = some e) (hc : rowAt h i = some cells) :
    ∃ C el fz, w.heap[e.blk]? = some (.cells C el fz) ∧ e.base + e.lim ≤ C.size ∧ cells.length ≤ e.lim ∧ VRels μ cells ((C.toList.drop e.base).take cells.length) := by
  obtain ⟨o, ho, hr⟩ := obind_eq hc
  cases o <;> simp [rowOf] at hr
  subst hr
  obtain ⟨C, el, fz, h1, h2, h3, _, h5, _⟩ := H.obj i e _ hi ho
  exact ⟨C, el, fz, h1, h2, h3, h5⟩
theorem HRel.cell (H : HRel good w0 μ h w) {i : Nat} {e : Spot} {cells : List Value} (hi : μ i = some e) (hc : rowAt h i = some cells) {off : Nat} {v : Value} (hv : cells[off]? = some v) :
    ∃ V, w.cell? ⟨e.blk, e.base + off, none⟩ = some V ∧ VRel μ v V := by
  obtain ⟨C, el, fz, h1, h2, h3, h5⟩ := H.row hi hc
  obtain ⟨V, hV, hr⟩ := h5.get hv
  rw [List.getElem?_take] at hV
  split at hV
  · rw [List.getElem?_drop] at hV
    refine ⟨V, ?_, hr⟩
    rw [cell_of_row w e.blk (e.base + off) C el fz h1]
    simpa using hV
  · simp at hV
end
end Go.Am
