/- Parts 52, 53 of the abstract machine over this program, joined: what each part says stands at its head. -/
import Derived.Test.YtfnkjclplfhjcaaGreatDoorJ48
set_option linter.unusedSimpArgs false
set_option linter.unusedVariables false
/- The abstract machine, part 52: contracts: the price of a quantity, and its memory. -/
namespace Go.Am
open Go Go.Proofs
section
variable (k : IntKind) (n : Int) (b : Bool) (s : ByteArray) (p : Option Addr) (m c : Nat) (r : Option Nat) (l : List Value)
theorem same_int : sameV (.int k n) (.int k n) = true := sameV_cell rfl
theorem same_bool : sameV (.bool b) (.bool b) = true := sameV_cell rfl
theorem same_str : sameV (.string s) (.string s) = true := sameV_cell rfl
theorem same_slice : sameV (.slice p m c) (.slice p m c) = true := sameV_cell rfl
theorem same_ptr : sameV (.pointer p) (.pointer p) = true := sameV_cell rfl
theorem same_map : sameV (.map r) (.map r) = true := sameV_cell rfl
theorem self_int : selfC (.int k n) = true := rfl
theorem self_bool : selfC (.bool b) = true := rfl
theorem self_str : selfC (.string s) = true := rfl
theorem self_slice : selfC (.slice p m c) = true := rfl
theorem self_ptr : selfC (.pointer p) = true := rfl
theorem self_map : selfC (.map r) = true := rfl
theorem all_c (v : Value) : (v :: l).all selfC = (selfC v && l.all selfC) := rfl
theorem all_n : ([] : List Value).all selfC = true := rfl
theorem same_agg (h : l.all selfC = true) : sameV (.agg ⟨l⟩) (.agg ⟨l⟩) = true := sameV_agg h
theorem and_tt : (true && true) = true := rfl
end
theorem AMR : type_of% (And.intro @same_int <| And.intro @same_bool <| And.intro @same_str <| And.intro @same_slice <| And.intro @same_ptr <| And.intro @same_map <| And.intro @self_int <| And.intro @self_bool <| And.intro @self_str <| And.intro @self_slice <| And.intro @self_ptr <| And.intro @self_map <| And.intro @all_c <| And.intro @all_n <| And.intro @same_agg <| And.intro @and_tt <| And.intro @sameO_row @sameO_map) := And.intro @same_int <| And.intro @same_bool <| And.intro @same_str <| And.intro @same_slice <| And.intro @same_ptr <| And.intro @same_map <| And.intro @self_int <| And.intro @self_bool <| And.intro @self_str <| And.intro @self_slice <| And.intro @self_ptr <| And.intro @self_map <| And.intro @all_c <| And.intro @all_n <| And.intro @same_agg <| And.intro @and_tt <| And.intro @sameO_row @sameO_map

/-- rows are as they were -/
structure RK (h h' : Heap) : Prop where
  ok : HOK h'
  next : h.next ≤ h'.next
  row : ∀ i l s o, h.get i = some (.row l s o) → h'.get i = some (.row l s o)
theorem RK.trans {a b c : Heap} (h : RK a b) (h' : RK b c) : RK a c := ⟨h'.ok, Nat.le_trans h.next h'.next, fun i l s o hr => h'.row i l s o (h.row i l s o hr)⟩
theorem RK.refl {h : Heap} (hk : HOK h) : RK h h := ⟨hk, Nat.le_refl _, fun _ _ _ _ h => h⟩
theorem RK.rowAt {h h' : Heap} (f : RK h h') {i : Nat} {l : List Value} (hr : rowAt h i = some l) : rowAt h' i = some l := by
  unfold Am.rowAt at hr ⊢
  obtain ⟨o, ho, h1⟩ := obind_eq hr
  cases o <;> simp [rowOf] at h1
  subst h1
  rw [f.row _ _ _ _ ho]; rfl
def price1 (t : Tar) (q : Int) : Int := rnd (t.rule - 1) (q * t.coins) t.units
def amount (t : Tar) (q : Int) : List Value := [.int .i64 t.kind, .int .i64 t.coins, .int .i64 t.units, .int .i64 t.rule, .bool t.each, .int .i64 q]
/-- the prices that a bill remembers are prices -/
def Memo (es : List MapEntry) : Prop := ∀ e ∈ es, ∃ t q, e.key = .agg ⟨amount t q⟩ ∧ e.val = .int .i64 (price1 t q)
def HasMap (h : Heap) (m : Nat) : Prop := ∃ es c, h.get m = some (.map es c) ∧ Memo es

/-- all but one map is as it was; that one still remembers prices -/
structure FrM (m : Nat) (h h' : Heap) : Prop where
  ok : HOK h'
  next : h.next ≤ h'.next
  get : ∀ i, i < h.next → i ≠ m → h'.get i = h.get i
  map : HasMap h' m
theorem HasMap.lt {h : Heap} {m : Nat} (hk : HOK h) (q : HasMap h m) : m < h.next := by
  obtain ⟨es, c, e, _⟩ := q; exact get_lt hk e
theorem HasMap.fr {h h' : Heap} {m : Nat} (q : HasMap h m) (hk : HOK h) (f : Fr h h') : HasMap h' m := by
  obtain ⟨es, c, e, q⟩ := q; exact ⟨es, c, f.get' hk e, q⟩
theorem FrM.trans {m : Nat} {a b c : Heap} (h : FrM m a b) (h' : FrM m b c) : FrM m a c := ⟨h'.ok, Nat.le_trans h.next h'.next, fun i hi hm => (h'.get i (Nat.lt_of_lt_of_le hi h.next) hm).trans (h.get i hi hm), h'.map⟩
theorem FrM.fr {m : Nat} {a b c : Heap} (h : Fr a b) (hm : a.next ≤ m) (h' : FrM m b c) : Fr a c := ⟨h'.ok, Nat.le_trans h.next h'.next, fun i hi => (h'.get i (Nat.lt_of_lt_of_le hi h.next) (by omega)).trans (h.get i hi)⟩
theorem cellsEq_int (k : IntKind) (a b : Int) (l r : List Value) : cellsEq (.int k a :: l) (.int k b :: r) = if a = b then cellsEq l r else some false := by
  show (match cellEq (.int k a) (.int k b) with | some true => cellsEq l r | some false => some false | none => none) = _
  simp only [cellEq, if_true]
  by_cases h : a = b
  · subst h; simp
  · have : (a == b) = false := by simpa using h
    rw [this, if_neg h]
theorem cellsEq_bool (a b : Bool) (l r : List Value) : cellsEq (.bool a :: l) (.bool b :: r) = if a = b then cellsEq l r else some false := by
  show (match cellEq (.bool a) (.bool b) with | some true => cellsEq l r | some false => some false | none => none) = _
  simp only [cellEq]
  by_cases h : a = b
  · subst h; simp
  · have : (a == b) = false := by simpa using h
    rw [this, if_neg h]
theorem cellsEq_nil : cellsEq [] [] = some true := rfl
noncomputable instance Tar.dec : DecidableEq Tar := fun _ _ => Classical.propDecidable _
end Go.Am

/- The abstract machine, part 53: contracts: what is paid. -/
namespace Go.Am
open Go Go.Proofs
theorem SL.weak {N N' : Nat} {h : Heap} {v : Value} {l : List Value} {s n : Nat} (q : SL N h v l s n) (hn : N' ≤ N) : SL N' h v l s n := by
  rcases q with q | ⟨b, e, h1, h2, h3⟩
  · exact .inl q
  · exact .inr ⟨b, e, h1, by omega, h3⟩
def parts (t : Tar) (bs : List Board) (hs : List Int) : List Int := (qtys t bs hs).map (price1 t)
end Go.Am
