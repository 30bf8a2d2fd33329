/- The abstract machine, part 59 (daybook seat): equality of the struct types that the program compares. -/
import Derived.Test.YtlflfbnnjlkkcaaGreatJT37
import Derived.Laws.StructEq
import Derived.Laws.Small
import Derived.DeepKeys3
set_option linter.unusedSimpArgs false
set_option linter.unusedVariables false
namespace Go.Am
open Go Go.Proofs

/-- fields compared one by one, by type and offset -/
def eqF (d : Nat) (xs ys : Array Value) : List (TypeId × Nat) → Sem Bool
  | [] => pure true
  | (t, o) :: fs => do
    let a ← part t xs o
    let b ← part t ys o
    let r ← Op.equalIn d t a b
    if (!r) = true then pure false else eqF d xs ys fs
theorem eqFields_eq (d : Nat) (xs ys : Array Value) : ∀ fs : List Field, fs.all (fun f => f.name != "_") = true → Op.eqFields d xs ys fs = eqF d xs ys (fs.map fun f => (f.type, f.offset))
  | [], _ => rfl
  | f :: fs, h => by
    rw [List.all_cons, Bool.and_eq_true] at h
    have hn : f.name ≠ "_" := by simpa using h.1
    rw [Op.eqFields, if_pos hn, List.map_cons, eqF, eqFields_eq d xs ys fs h.2]

section
variable {P : Program} {w : World} {d : Nat}
theorem eqF_cons {t : TypeId} {o : Nat} {fs : List (TypeId × Nat)} {xs ys : Array Value} {a b : Value} {r : Bool} (ha : (part t xs o).run P w = .ok a w) (hb : (part t ys o).run P w = .ok b w) (hr : (Op.equalIn d t a b).run P w = .ok r w) :
    (eqF d xs ys ((t, o) :: fs)).run P w = if r = true then (eqF d xs ys fs).run P w else .ok false w := by
  simp only [eqF, Sem.run_bind, ha, hb, hr, Result.andThen_ok]
  cases r <;> simp
theorem eq_int {t : TypeId} {k : IntKind} (hu : P.underlying t = some (.int k)) (q : IntKind) (a b : Int) : (Op.equalIn (d + 1) t (.int q a) (.int q b)).run P w = .ok (a == b) w := by
  simp [Op.equalIn, run_underlying hu]
theorem part_scalar {t : TypeId} {k : TypeDesc} (hu : P.underlying t = some k) (hk : aggDesc k = false) {xs : Array Value} {o : Nat} {v : Value} (hv : xs[o]? = some v) : (part t xs o).run P w = .ok v w := by
  have : (isAgg t).run P w = .ok false w := by
    unfold isAgg; simp only [Sem.run_bind, run_underlying hu, Result.andThen_ok]
    cases k <;> first | rfl | (simp [aggDesc] at hk)
  unfold part
  simp [this, hv]
theorem eq_struct {t : TypeId} {fs : List (TypeId × Nat)} {xs ys : Array Value} (hu : P.underlying t = some (.struct (P.fieldsOf t))) (hp : P.stoodInHeld t = false) (hn : (P.fieldsOf t).toList.all (fun f => f.name != "_") = true) (hf : ((P.fieldsOf t).toList.map fun f => (f.type, f.offset)) = fs) :
    (Op.equalIn (d + 1) t (.agg xs) (.agg ys)).run P w = (eqF d xs ys fs).run P w := by
  rw [run_equalIn_struct w d t xs ys hu hp, eqFields_eq d xs ys _ hn, hf]
end

theorem and_or {a b : Int} {r : Bool} {X : Result Bool} {w : World} (h1 : a = b → X = .ok r w) (h2 : ¬ a = b → r = false) : (if (a == b) = true then X else .ok false w) = .ok r w := by
  by_cases h : a = b
  · rw [if_pos (by simpa using h)]; exact h1 h
  · rw [if_neg (by simpa using h), h2 h]
theorem and_orB {a b : Bool} {r : Bool} {X : Result Bool} {w : World} (h1 : a = b → X = .ok r w) (h2 : ¬ a = b → r = false) : (if (a == b) = true then X else .ok false w) = .ok r w := by
  by_cases h : a = b
  · rw [if_pos (by simpa using h)]; exact h1 h
  · rw [if_neg (by simpa using h), h2 h]

/-- cells of a kind -/
theorem like_cons {z v : Value} {l m : List Value} (h : likeAll (z :: l) m = true) : ∃ y r, m = y :: r ∧ sameKind z y = true ∧ likeAll l r = true := by
  cases m with
  | nil => simp [likeAll, lrec_cons] at h
  | cons y r =>
    have h : (match sameKind z y with | true => likeAll l r | false => false) = true := h
    cases hk : sameKind z y with
    | false => rw [hk] at h; simp at h
    | true => rw [hk] at h; exact ⟨y, r, rfl, hk, h⟩
theorem like_int {k : IntKind} {n : Int} {l m : List Value} (h : likeAll (.int k n :: l) m = true) : ∃ a r, m = .int k a :: r ∧ likeAll l r = true := by
  obtain ⟨y, r, e, h1, h2⟩ := like_cons (v := .int k n) h
  cases y <;> simp [sameKind] at h1
  subst h1
  exact ⟨_, r, e, h2⟩
theorem like_bool {b : Bool} {l m : List Value} (h : likeAll (.bool b :: l) m = true) : ∃ a r, m = .bool a :: r ∧ likeAll l r = true := by
  obtain ⟨y, r, e, h1, h2⟩ := like_cons (v := .bool b) h
  cases y <;> simp [sameKind] at h1
  exact ⟨_, r, e, h2⟩
theorem like_nil {m : List Value} (h : likeAll [] m = true) : m = [] := by
  cases m with
  | nil => rfl
  | cons y r => simp [likeAll, lrec_nil] at h
theorem arr_of {xs : Array Value} {l : List Value} (h : xs.toList = l) : xs = ⟨l⟩ := by rw [← h]

/-- what the cells' equality says, an integer ahead -/
theorem ce_int {k : IntKind} {a b : Int} {l m : List Value} {r : Bool} (h : cellsEq (.int k a :: l) (.int k b :: m) = some r) : (a = b → cellsEq l m = some r) ∧ (¬ a = b → r = false) := by
  have h : (match cellEq (.int k a) (.int k b) with | some true => cellsEq l m | some false => some false | none => none) = some r := h
  simp only [cellEq, if_true] at h
  constructor
  · rintro rfl; simpa using h
  · intro hn
    have : (a == b) = false := by simpa using hn
    rw [this] at h; simpa using h.symm
theorem ce_bool {a b : Bool} {l m : List Value} {r : Bool} (h : cellsEq (.bool a :: l) (.bool b :: m) = some r) : (a = b → cellsEq l m = some r) ∧ (¬ a = b → r = false) := by
  have h : (match cellEq (.bool a) (.bool b) with | some true => cellsEq l m | some false => some false | none => none) = some r := h
  simp only [cellEq] at h
  constructor
  · rintro rfl; simpa using h
  · intro hn
    have : (a == b) = false := by simpa using hn
    rw [this] at h; simpa using h.symm
theorem ce_nil {r : Bool} (h : cellsEq [] [] = some r) : r = true := by
  have : some true = some r := h
  simpa using this.symm

theorem key_scalar {P : Program} {w : World} {t : TypeId} {k : TypeDesc} (hu : P.underlying t = some k) (hk : (match k with | .int _ => true | .bool => true | .string => true | _ => false) = true) {v : Value} (hv : basic v = true) (em : Bool) (d : Nat) : (Instr.checkKey em (d + 1) t v).run P w = .ok () w := by
  rw [Instr.checkKey]
  simp only [Sem.run_bind, run_underlying hu, Result.andThen_ok]
  cases k <;> first | (simp at hk; done) | (cases v <;> first | rfl | (simp [basic] at hv; done))
theorem key_struct {P : Program} {w : World} {t : TypeId} {fs : List (TypeId × Nat)} {xs : Array Value} {em : Bool} {d : Nat} (hu : P.underlying t = some (.struct (P.fieldsOf t))) (hn : (P.fieldsOf t).toList.all (fun f => f.name != "_") = true) (hf : ((P.fieldsOf t).toList.map fun f => (f.type, f.offset)) = fs)
    (h : ∀ p ∈ fs, ∃ a, (part p.1 xs p.2).run P w = .ok a w ∧ (Instr.checkKey em d p.1 a).run P w = .ok () w) : (Instr.checkKey em (d + 1) t (.agg xs)).run P w = .ok () w := by
  rw [Instr.checkKey]
  simp only [Sem.run_bind, run_underlying hu, Result.andThen_ok]
  rw [← Array.forIn_toList]
  have each : ∀ f ∈ (P.fieldsOf t).toList, f.name ≠ "_" ∧ ∃ a, (part f.type xs f.offset).run P w = .ok a w ∧ (Instr.checkKey em d f.type a).run P w = .ok () w := fun f hf' => by
    refine ⟨by simpa using List.all_eq_true.1 hn f hf', h (f.type, f.offset) ?_⟩
    rw [← hf]; exact List.mem_map.2 ⟨f, hf', rfl⟩
  clear hf hn hu h
  generalize (P.fieldsOf t).toList = L at each
  induction L with
  | nil => simp
  | cons f L ih =>
    obtain ⟨hn, a, p1, p2⟩ := each f (by simp)
    simp only [List.forIn_cons, Sem.run_bind, hn, ne_eq, not_false_eq_true, if_true, Result.andThen_ok, p1, p2, Sem.run_pure]
    exact ih (fun y hy => each y (by simp [hy]))


section
variable {t : TypeId} (hu : Tryz.prog.underlying t = some (.struct (Tryz.prog.fieldsOf t))) (hp : Tryz.prog.stoodInHeld t = false) (hn : (Tryz.prog.fieldsOf t).toList.all (fun f => f.name != "_") = true) (hf : ((Tryz.prog.fieldsOf t).toList.map fun f => (f.type, f.offset)) = [(3, 0), (3, 1)])
include hu hn hf
include hp in
theorem eq_two (d : Nat) (w : World) {a b a' b' : Int} {r : Bool} (h : cellsEq [.int .i64 a, .int .i64 b] [.int .i64 a', .int .i64 b'] = some r) :
    (Op.equalIn (d + 2) t (.agg ⟨[.int .i64 a, .int .i64 b]⟩) (.agg ⟨[.int .i64 a', .int .i64 b']⟩)).run Tryz.prog w = .ok r w := by
  rw [eq_struct hu hp hn hf]
  rw [eqF_cons (part_scalar Tryz.underlying3 rfl rfl) (part_scalar Tryz.underlying3 rfl rfl) (eq_int Tryz.underlying3 _ _ _)]
  refine and_or (fun he => ?_) (ce_int h).2
  have h := (ce_int h).1 he
  rw [eqF_cons (part_scalar Tryz.underlying3 rfl rfl) (part_scalar Tryz.underlying3 rfl rfl) (eq_int Tryz.underlying3 _ _ _)]
  refine and_or (fun he => ?_) (ce_int h).2
  have h := (ce_int h).1 he
  rw [ce_nil h]; rfl
theorem key_two (em : Bool) (d : Nat) (w : World) (a b : Int) : (Instr.checkKey em (d + 2) t (.agg ⟨[.int .i64 a, .int .i64 b]⟩)).run Tryz.prog w = .ok () w := by
  refine key_struct hu hn hf fun p hp => ?_
  simp only [List.mem_cons, List.not_mem_nil, or_false] at hp
  rcases hp with rfl | rfl
  · exact ⟨_, part_scalar Tryz.underlying3 rfl rfl, key_scalar Tryz.underlying3 rfl rfl _ _⟩
  · exact ⟨_, part_scalar Tryz.underlying3 rfl rfl, key_scalar Tryz.underlying3 rfl rfl _ _⟩
include hp in
theorem spec_two (hg : Tryz.prog.eqGuardType Tryz.prog.depth t = false) : EqSpec Tryz.prog t [.int .i64 0, .int .i64 0] where
  eq := by
    intro xs ys r hx hy h w
    obtain ⟨a, l1, e, hx1⟩ := like_int hx
    obtain ⟨b, l2, qhx2, hx2⟩ := like_int hx1
    have qn := like_nil hx2
    subst qn
    subst qhx2
    rw [e] at hy
    obtain ⟨a', l1, e', hy1⟩ := like_int hy
    obtain ⟨b', l2, qhy2, hy2⟩ := like_int hy1
    have qn := like_nil hy2
    subst qn
    subst qhy2
    rw [e, e'] at h
    rw [arr_of e, arr_of e']
    exact eq_two hu hp hn hf 9998 w h
  guard := hg
  key := by
    intro cs n _ _ hx em w
    obtain ⟨a, l1, e, hx1⟩ := like_int hx
    obtain ⟨b, l2, qhx2, hx2⟩ := like_int hx1
    have qn := like_nil hx2
    subst qn
    subst qhx2
    rw [arr_of e]
    exact key_two hu hn hf em 9998 w a b
end
theorem spec_letter_pair : EqSpec Tryz.prog 221 [.int .i64 0, .int .i64 0] := spec_two (by kernel_rfl) (by kernel_rfl) (by kernel_rfl) (by kernel_rfl) (by kernel_rfl)
theorem spec_bench_end : EqSpec Tryz.prog 285 [.int .i64 0, .int .i64 0] := spec_two (by kernel_rfl) (by kernel_rfl) (by kernel_rfl) (by kernel_rfl) (by kernel_rfl)
theorem spec_tint_spot : EqSpec Tryz.prog 344 [.int .i64 0, .int .i64 0] := spec_two (by kernel_rfl) (by kernel_rfl) (by kernel_rfl) (by kernel_rfl) (by kernel_rfl)
theorem spec_coat_step : EqSpec Tryz.prog 387 [.int .i64 0, .int .i64 0] := spec_two (by kernel_rfl) (by kernel_rfl) (by kernel_rfl) (by kernel_rfl) (by kernel_rfl)
theorem eq41 (d : Nat) (w : World) {a b c e a' b' c' e' : Int} {f f' : Bool} {r : Bool} (h : cellsEq [.int .i64 a, .int .i64 b, .int .i64 c, .int .i64 e, .bool f] [.int .i64 a', .int .i64 b', .int .i64 c', .int .i64 e', .bool f'] = some r) :
    (Op.equalIn (d + 2) 166 (.agg ⟨[.int .i64 a, .int .i64 b, .int .i64 c, .int .i64 e, .bool f]⟩) (.agg ⟨[.int .i64 a', .int .i64 b', .int .i64 c', .int .i64 e', .bool f']⟩)).run Tryz.prog w = .ok r w := by
  rw [eq_struct (fs := [(163, 0), (3, 1), (3, 2), (164, 3), (4, 4)]) (by kernel_rfl) (by kernel_rfl) (by kernel_rfl) (by kernel_rfl)]
  rw [eqF_cons (part_scalar Tryz.underlying163 rfl rfl) (part_scalar Tryz.underlying163 rfl rfl) (eq_int Tryz.underlying163 _ _ _)]
  refine and_or (fun he => ?_) (ce_int h).2
  have h := (ce_int h).1 he
  rw [eqF_cons (part_scalar Tryz.underlying3 rfl rfl) (part_scalar Tryz.underlying3 rfl rfl) (eq_int Tryz.underlying3 _ _ _)]
  refine and_or (fun he => ?_) (ce_int h).2
  have h := (ce_int h).1 he
  rw [eqF_cons (part_scalar Tryz.underlying3 rfl rfl) (part_scalar Tryz.underlying3 rfl rfl) (eq_int Tryz.underlying3 _ _ _)]
  refine and_or (fun he => ?_) (ce_int h).2
  have h := (ce_int h).1 he
  rw [eqF_cons (part_scalar Tryz.underlying164 rfl rfl) (part_scalar Tryz.underlying164 rfl rfl) (eq_int Tryz.underlying164 _ _ _)]
  refine and_or (fun he => ?_) (ce_int h).2
  have h := (ce_int h).1 he
  rw [eqF_cons (part_scalar Tryz.underlying4 rfl rfl) (part_scalar Tryz.underlying4 rfl rfl) (run_equalIn_bool w _ _ _ _ Tryz.underlying4)]
  refine and_orB (fun he => ?_) (ce_bool h).2
  have h := (ce_bool h).1 he
  rw [ce_nil h]; rfl
theorem key41 (em : Bool) (d : Nat) (w : World) (a b c e : Int) (f : Bool) : (Instr.checkKey em (d + 2) 166 (.agg ⟨[.int .i64 a, .int .i64 b, .int .i64 c, .int .i64 e, .bool f]⟩)).run Tryz.prog w = .ok () w := by
  refine key_struct (fs := [(163, 0), (3, 1), (3, 2), (164, 3), (4, 4)]) (by kernel_rfl) (by kernel_rfl) (by kernel_rfl) fun p hp => ?_
  simp only [List.mem_cons, List.not_mem_nil, or_false] at hp
  rcases hp with rfl | rfl | rfl | rfl | rfl
  · exact ⟨_, part_scalar Tryz.underlying163 rfl rfl, key_scalar Tryz.underlying163 rfl rfl _ _⟩
  · exact ⟨_, part_scalar Tryz.underlying3 rfl rfl, key_scalar Tryz.underlying3 rfl rfl _ _⟩
  · exact ⟨_, part_scalar Tryz.underlying3 rfl rfl, key_scalar Tryz.underlying3 rfl rfl _ _⟩
  · exact ⟨_, part_scalar Tryz.underlying164 rfl rfl, key_scalar Tryz.underlying164 rfl rfl _ _⟩
  · exact ⟨_, part_scalar Tryz.underlying4 rfl rfl, key_scalar Tryz.underlying4 rfl rfl _ _⟩
theorem ce_split {l m l' m' : List Value} {r : Bool} (hl : l.length = l'.length) (h : cellsEq (l ++ m) (l' ++ m') = some r) : ∃ r1, cellsEq l l' = some r1 ∧ (r1 = true → cellsEq m m' = some r) ∧ (r1 = false → r = false) := by
  induction l generalizing l' with
  | nil =>
    have : l' = [] := List.eq_nil_of_length_eq_zero hl.symm
    subst this
    exact ⟨true, rfl, fun _ => h, fun h => by simp at h⟩
  | cons x l ih =>
    cases l' with
    | nil => simp at hl
    | cons y l' =>
      have h : (match cellEq x y with | some true => cellsEq (l ++ m) (l' ++ m') | some false => some false | none => none) = some r := h
      have e : cellsEq (x :: l) (y :: l') = (match cellEq x y with | some true => cellsEq l l' | some false => some false | none => none) := rfl
      cases hc : cellEq x y with
      | none => rw [hc] at h; simp at h
      | some q =>
        rw [hc] at h
        rw [e, hc]
        cases q with
        | false => simp at h; exact ⟨false, rfl, fun h => by simp at h, fun _ => h⟩
        | true => exact ih (by simpa using hl) h

/-- the run of a nested struct, then the rest -/
theorem nest {r1 r : Bool} {X : Result Bool} {w : World} (h1 : r1 = true → X = .ok r w) (h2 : r1 = false → r = false) : (if r1 = true then X else .ok false w) = .ok r w := by
  cases r1
  · rw [if_neg (by simp), h2 rfl]
  · rw [if_pos rfl]; exact h1 rfl

theorem eq154 (d : Nat) (w : World) {a b c e a' b' c' e' q q' : Int} {f f' : Bool} {r : Bool} (h : cellsEq [.int .i64 a, .int .i64 b, .int .i64 c, .int .i64 e, .bool f, .int .i64 q] [.int .i64 a', .int .i64 b', .int .i64 c', .int .i64 e', .bool f', .int .i64 q'] = some r) :
    (Op.equalIn (d + 3) 353 (.agg ⟨[.int .i64 a, .int .i64 b, .int .i64 c, .int .i64 e, .bool f, .int .i64 q]⟩) (.agg ⟨[.int .i64 a', .int .i64 b', .int .i64 c', .int .i64 e', .bool f', .int .i64 q']⟩)).run Tryz.prog w = .ok r w := by
  rw [eq_struct (fs := [(166, 0), (3, 5)]) (by kernel_rfl) (by kernel_rfl) (by kernel_rfl) (by kernel_rfl)]
  obtain ⟨r1, h1, h2, h3⟩ := ce_split (l := [.int .i64 a, .int .i64 b, .int .i64 c, .int .i64 e, .bool f]) (m := [.int .i64 q]) (l' := [.int .i64 a', .int .i64 b', .int .i64 c', .int .i64 e', .bool f']) (m' := [.int .i64 q']) rfl h
  rw [eqF_cons (a := .agg ⟨[.int .i64 a, .int .i64 b, .int .i64 c, .int .i64 e, .bool f]⟩) (b := .agg ⟨[.int .i64 a', .int .i64 b', .int .i64 c', .int .i64 e', .bool f']⟩) (by kernel_rfl) (by kernel_rfl) (eq41 d w h1)]
  refine nest (fun he => ?_) h3
  have h := h2 he
  rw [eqF_cons (part_scalar Tryz.underlying3 rfl rfl) (part_scalar Tryz.underlying3 rfl rfl) (eq_int Tryz.underlying3 _ _ _)]
  refine and_or (fun he => ?_) (ce_int h).2
  have h := (ce_int h).1 he
  rw [ce_nil h]; rfl
theorem key154 (em : Bool) (d : Nat) (w : World) (a b c e : Int) (f : Bool) (q : Int) : (Instr.checkKey em (d + 3) 353 (.agg ⟨[.int .i64 a, .int .i64 b, .int .i64 c, .int .i64 e, .bool f, .int .i64 q]⟩)).run Tryz.prog w = .ok () w := by
  refine key_struct (fs := [(166, 0), (3, 5)]) (by kernel_rfl) (by kernel_rfl) (by kernel_rfl) fun p hp => ?_
  simp only [List.mem_cons, List.not_mem_nil, or_false] at hp
  rcases hp with rfl | rfl
  · exact ⟨.agg ⟨[.int .i64 a, .int .i64 b, .int .i64 c, .int .i64 e, .bool f]⟩, by kernel_rfl, key41 em d w a b c e f⟩
  · exact ⟨_, part_scalar Tryz.underlying3 rfl rfl, key_scalar Tryz.underlying3 rfl rfl _ _⟩
theorem spec154 : EqSpec Tryz.prog 353 [.int .i64 0, .int .i64 0, .int .i64 0, .int .i64 0, .bool false, .int .i64 0] where
  eq := by
    intro xs ys r hx hy h w
    obtain ⟨a, l1, e, hx1⟩ := like_int hx
    obtain ⟨b, l2, qhx2, hx2⟩ := like_int hx1
    obtain ⟨c, l3, qhx3, hx3⟩ := like_int hx2
    obtain ⟨d, l4, qhx4, hx4⟩ := like_int hx3
    obtain ⟨f, l5, qhx5, hx5⟩ := like_bool hx4
    obtain ⟨q, l6, qhx6, hx6⟩ := like_int hx5
    have qn := like_nil hx6
    subst qn
    subst qhx6
    subst qhx5
    subst qhx4
    subst qhx3
    subst qhx2
    rw [e] at hy
    obtain ⟨a', l1, e', hy1⟩ := like_int hy
    obtain ⟨b', l2, qhy2, hy2⟩ := like_int hy1
    obtain ⟨c', l3, qhy3, hy3⟩ := like_int hy2
    obtain ⟨d', l4, qhy4, hy4⟩ := like_int hy3
    obtain ⟨f', l5, qhy5, hy5⟩ := like_bool hy4
    obtain ⟨q', l6, qhy6, hy6⟩ := like_int hy5
    have qn := like_nil hy6
    subst qn
    subst qhy6
    subst qhy5
    subst qhy4
    subst qhy3
    subst qhy2
    rw [e, e'] at h
    rw [arr_of e, arr_of e']
    exact eq154 9997 w h
  guard := by kernel_rfl
  key := by
    intro cs n _ _ hx em w
    obtain ⟨a, l1, e, hx1⟩ := like_int hx
    obtain ⟨b, l2, qhx2, hx2⟩ := like_int hx1
    obtain ⟨c, l3, qhx3, hx3⟩ := like_int hx2
    obtain ⟨d, l4, qhx4, hx4⟩ := like_int hx3
    obtain ⟨f, l5, qhx5, hx5⟩ := like_bool hx4
    obtain ⟨q, l6, qhx6, hx6⟩ := like_int hx5
    have qn := like_nil hx6
    subst qn
    subst qhx6
    subst qhx5
    subst qhx4
    subst qhx3
    subst qhx2
    rw [arr_of e]
    exact key154 em 9997 w a b c d f q

section
variable {t : TypeId} (hu : Tryz.prog.underlying t = some (.struct (Tryz.prog.fieldsOf t))) (hp : Tryz.prog.stoodInHeld t = false) (hn : (Tryz.prog.fieldsOf t).toList.all (fun f => f.name != "_") = true) (hf : ((Tryz.prog.fieldsOf t).toList.map fun f => (f.type, f.offset)) = [(3, 0), (3, 1), (3, 2)])
include hu hn hf
include hp in
theorem eq_three (d : Nat) (w : World) {a b c a' b' c' : Int} {r : Bool} (h : cellsEq [.int .i64 a, .int .i64 b, .int .i64 c] [.int .i64 a', .int .i64 b', .int .i64 c'] = some r) :
    (Op.equalIn (d + 2) t (.agg ⟨[.int .i64 a, .int .i64 b, .int .i64 c]⟩) (.agg ⟨[.int .i64 a', .int .i64 b', .int .i64 c']⟩)).run Tryz.prog w = .ok r w := by
  rw [eq_struct hu hp hn hf]
  rw [eqF_cons (part_scalar Tryz.underlying3 rfl rfl) (part_scalar Tryz.underlying3 rfl rfl) (eq_int Tryz.underlying3 _ _ _)]
  refine and_or (fun he => ?_) (ce_int h).2
  have h := (ce_int h).1 he
  rw [eqF_cons (part_scalar Tryz.underlying3 rfl rfl) (part_scalar Tryz.underlying3 rfl rfl) (eq_int Tryz.underlying3 _ _ _)]
  refine and_or (fun he => ?_) (ce_int h).2
  have h := (ce_int h).1 he
  rw [eqF_cons (part_scalar Tryz.underlying3 rfl rfl) (part_scalar Tryz.underlying3 rfl rfl) (eq_int Tryz.underlying3 _ _ _)]
  refine and_or (fun he => ?_) (ce_int h).2
  have h := (ce_int h).1 he
  rw [ce_nil h]; rfl
theorem key_three (em : Bool) (d : Nat) (w : World) (a b c : Int) : (Instr.checkKey em (d + 2) t (.agg ⟨[.int .i64 a, .int .i64 b, .int .i64 c]⟩)).run Tryz.prog w = .ok () w := by
  refine key_struct hu hn hf fun p hp => ?_
  simp only [List.mem_cons, List.not_mem_nil, or_false] at hp
  rcases hp with rfl | rfl | rfl
  · exact ⟨_, part_scalar Tryz.underlying3 rfl rfl, key_scalar Tryz.underlying3 rfl rfl _ _⟩
  · exact ⟨_, part_scalar Tryz.underlying3 rfl rfl, key_scalar Tryz.underlying3 rfl rfl _ _⟩
  · exact ⟨_, part_scalar Tryz.underlying3 rfl rfl, key_scalar Tryz.underlying3 rfl rfl _ _⟩
include hp in
theorem spec_three (hg : Tryz.prog.eqGuardType Tryz.prog.depth t = false) : EqSpec Tryz.prog t [.int .i64 0, .int .i64 0, .int .i64 0] where
  eq := by
    intro xs ys r hx hy h w
    obtain ⟨a, l1, e, hx1⟩ := like_int hx
    obtain ⟨b, l2, qhx2, hx2⟩ := like_int hx1
    obtain ⟨c, l3, qhx3, hx3⟩ := like_int hx2
    have qn := like_nil hx3
    subst qn
    subst qhx3
    subst qhx2
    rw [e] at hy
    obtain ⟨a', l1, e', hy1⟩ := like_int hy
    obtain ⟨b', l2, qhy2, hy2⟩ := like_int hy1
    obtain ⟨c', l3, qhy3, hy3⟩ := like_int hy2
    have qn := like_nil hy3
    subst qn
    subst qhy3
    subst qhy2
    rw [e, e'] at h
    rw [arr_of e, arr_of e']
    exact eq_three hu hp hn hf 9998 w h
  guard := hg
  key := by
    intro cs n _ _ hx em w
    obtain ⟨a, l1, e, hx1⟩ := like_int hx
    obtain ⟨b, l2, qhx2, hx2⟩ := like_int hx1
    obtain ⟨c, l3, qhx3, hx3⟩ := like_int hx2
    have qn := like_nil hx3
    subst qn
    subst qhx3
    subst qhx2
    rw [arr_of e]
    exact key_three hu hn hf em 9998 w a b c
end
theorem spec_leaf_rest : EqSpec Tryz.prog 428 [.int .i64 0, .int .i64 0, .int .i64 0] := spec_three (by kernel_rfl) (by kernel_rfl) (by kernel_rfl) (by kernel_rfl) (by kernel_rfl)
end Go.Am
