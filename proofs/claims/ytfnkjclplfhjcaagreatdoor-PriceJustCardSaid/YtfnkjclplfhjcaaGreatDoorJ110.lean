/- Parts 110 of the abstract machine over this program, joined: what each part says stands at its head. -/
import Derived.Test.YtfnkjclplfhjcaaGreatDoorJ107
set_option linter.unusedSimpArgs false
set_option linter.unusedVariables false
/- PLAIN: the law of shares: each is rounded down or up, and all of them are what is paid. -/
namespace Go.Am
open Go

/-- of what is left nobody gets more than one, and only who has a rest -/
def Fair (out r res : List Int) : Prop := ∀ (k : Nat) x y, out[k]? = some x → r[k]? = some y → res[k]? = some x ∨ (res[k]? = some (x + 1) ∧ 0 < y)
theorem fair_one (a x : Int) : Fair [x] [a] (takeRef 0 [x] [a]) := fun k p q h1 _ => .inl h1
theorem fair_zero (out r : List Int) : Fair out r (takeRef 0 out r) := fun k p q h1 _ => .inl h1
theorem fair_two {a b M : Int} (x y : Int) (ha : 0 ≤ a) (hb : 0 ≤ b) (hs : a + b = M) (hM : 1 ≤ M) : Fair [x, y] [a, b] (takeRef 1 [x, y] [a, b]) := by
  by_cases h1 : a < b
  · have e : takeRef 1 [x, y] [a, b] = [x, y + 1] := by simp [takeRef, argmax, bump, List.range_succ, h1]
    rw [e]
    intro k p q hp hq
    match k with
    | 0 => exact .inl hp
    | 1 => simp at hp hq; subst hp; subst hq; exact .inr ⟨rfl, by omega⟩
    | k + 2 => simp at hp
  · have e : takeRef 1 [x, y] [a, b] = [x + 1, y] := by simp [takeRef, argmax, bump, List.range_succ, h1]
    rw [e]
    intro k p q hp hq
    match k with
    | 0 => simp at hp hq; subst hp; subst hq; exact .inr ⟨rfl, by omega⟩
    | 1 => exact .inl hp
    | k + 2 => simp at hp
theorem fair_pick {a b c x y z : Int} {u v w : Bool} (hu : u = true → 0 < a) (hv : v = true → 0 < b) (hw : w = true → 0 < c) : Fair [x, y, z] [a, b, c] [if u then x + 1 else x, if v then y + 1 else y, if w then z + 1 else z] := by
  intro k p q hp hq
  match k with
  | 0 =>
    simp at hp hq; subst hp; subst hq
    cases u with
    | true => exact .inr ⟨rfl, hu rfl⟩
    | false => exact .inl rfl
  | 1 =>
    simp at hp hq; subst hp; subst hq
    cases v with
    | true => exact .inr ⟨rfl, hv rfl⟩
    | false => exact .inl rfl
  | 2 =>
    simp at hp hq; subst hp; subst hq
    cases w with
    | true => exact .inr ⟨rfl, hw rfl⟩
    | false => exact .inl rfl
  | k + 3 => simp at hp

theorem fair_three_1 {a b c M : Int} (x y z : Int) (ha : 0 ≤ a) (hb : 0 ≤ b) (hc : 0 ≤ c) (hs : a + b + c = M) (hM : 1 ≤ M) : Fair [x, y, z] [a, b, c] (takeRef 1 [x, y, z] [a, b, c]) := by
  have F := fun u v w hu hv hw => fair_pick (a := a) (b := b) (c := c) (x := x) (y := y) (z := z) (u := u) (v := v) (w := w) hu hv hw
  by_cases h1 : a < b <;> by_cases h2 : a < c <;> by_cases h3 : b < c
  all_goals first
    | (exfalso; omega)
    | (have e : takeRef 1 [x, y, z] [a, b, c] = [x, y, z + 1] := by simp [takeRef, argmax, bump, List.range_succ, h1, h2, h3]
       rw [e]; exact F false false true (fun h => by cases h) (fun h => by cases h) (fun _ => by omega))
    | (have e : takeRef 1 [x, y, z] [a, b, c] = [x, y + 1, z] := by simp [takeRef, argmax, bump, List.range_succ, h1, h2, h3]
       rw [e]; exact F false true false (fun h => by cases h) (fun _ => by omega) (fun h => by cases h))
    | (have e : takeRef 1 [x, y, z] [a, b, c] = [x + 1, y, z] := by simp [takeRef, argmax, bump, List.range_succ, h1, h2, h3]
       rw [e]; exact F true false false (fun _ => by omega) (fun h => by cases h) (fun h => by cases h))
theorem fair_three_2 {a b c M : Int} (x y z : Int) (ha : 0 ≤ a) (hb : 0 ≤ b) (hc : 0 ≤ c) (hs : a + b + c = 2 * M) (hM : 1 ≤ M) (la : a < M) (lb : b < M) (lc : c < M) : Fair [x, y, z] [a, b, c] (takeRef 2 [x, y, z] [a, b, c]) := by
  have F := fun u v w hu hv hw => fair_pick (a := a) (b := b) (c := c) (x := x) (y := y) (z := z) (u := u) (v := v) (w := w) hu hv hw
  have a1 : -1 < a := by omega
  have b1 : -1 < b := by omega
  have c1 : -1 < c := by omega
  have a2 : ¬ a < -1 := by omega
  have b2 : ¬ b < -1 := by omega
  have c2 : ¬ c < -1 := by omega
  by_cases h1 : a < b <;> by_cases h2 : a < c <;> by_cases h3 : b < c
  all_goals first
    | (exfalso; omega)
    | (have e : takeRef 2 [x, y, z] [a, b, c] = [x, y + 1, z + 1] := by simp [takeRef, argmax, bump, List.range_succ, h1, h2, h3, a1, b1, c1, a2, b2, c2]
       rw [e]; exact F false true true (fun h => by cases h) (fun _ => by omega) (fun _ => by omega))
    | (have e : takeRef 2 [x, y, z] [a, b, c] = [x + 1, y, z + 1] := by simp [takeRef, argmax, bump, List.range_succ, h1, h2, h3, a1, b1, c1, a2, b2, c2]
       rw [e]; exact F true false true (fun _ => by omega) (fun h => by cases h) (fun _ => by omega))
    | (have e : takeRef 2 [x, y, z] [a, b, c] = [x + 1, y + 1, z] := by simp [takeRef, argmax, bump, List.range_succ, h1, h2, h3, a1, b1, c1, a2, b2, c2]
       rw [e]; exact F true true false (fun _ => by omega) (fun _ => by omega) (fun h => by cases h))

/-- shares are fair -/
theorem shares_fair {P : Int} {W : List Int} (hP : 0 ≤ P) (hW : ∀ w ∈ W, 0 ≤ w) (hA : 1 ≤ sumI W) (h3 : W.length ≤ 3) : Fair (baseL P W) (restL P W) (sharesL P W) := by
  have lb := left_b hP hW hA
  have e := base_rest P (sumI W) W
  have ln : (leftN P W : Int) = P - sumI (baseL P W) := by unfold leftN; omega
  have e1 : sumI (restL P W) = leftN P W * sumI W := by
    rw [ln, Int.sub_mul]
    unfold baseL restL
    rw [Int.mul_comm (sumI (W.map fun w => P * w / sumI W))]
    omega
  have rb : ∀ x ∈ restL P W, 0 ≤ x ∧ x < sumI W := fun x hx => by
    unfold restL at hx
    rw [List.mem_map] at hx
    obtain ⟨w, _, rfl⟩ := hx
    exact ⟨Int.emod_nonneg _ (by omega), Int.emod_lt_of_pos _ (by omega)⟩
  have bl : (baseL P W).length = W.length := by simp [baseL]
  have rl : (restL P W).length = W.length := by simp [restL]
  have hn : leftN P W < W.length := by omega
  unfold sharesL
  generalize leftN P W = n at *
  generalize baseL P W = out at *
  generalize restL P W = r at *
  generalize sumI W = M at *
  have ol : out.length = r.length := by omega
  clear bl e ln lb
  match r, out, ol, rl with
  | [a], [x], _, r1 =>
    have : n = 0 := by simp at r1; omega
    subst this; exact fair_zero _ _
  | [a, b], [x, y], _, r1 =>
    have ra := rb a (by simp)
    have rbb := rb b (by simp)
    have hc : n = 0 ∨ n = 1 := by simp at r1; omega
    rcases hc with rfl | rfl
    · exact fair_zero _ _
    · refine fair_two (M := M) x y ra.1 rbb.1 ?_ hA
      simp only [sumI_cons] at e1
      simp [sumI] at e1
      omega
  | [a, b, c], [x, y, z], _, r1 =>
    have ra := rb a (by simp)
    have rbb := rb b (by simp)
    have rc := rb c (by simp)
    have hc : n = 0 ∨ n = 1 ∨ n = 2 := by simp at r1; omega
    rcases hc with rfl | rfl | rfl
    · exact fair_zero _ _
    · refine fair_three_1 (M := M) x y z ra.1 rbb.1 rc.1 ?_ hA
      simp only [sumI_cons] at e1
      simp [sumI] at e1
      omega
    · refine fair_three_2 (M := M) x y z ra.1 rbb.1 rc.1 ?_ hA ra.2 rbb.2 rc.2
      simp only [sumI_cons] at e1
      simp [sumI] at e1
      omega
  | [], _, _, r1 => exfalso; simp at r1; omega
  | _ :: _ :: _ :: _ :: _, _, _, r1 => exfalso; simp at r1; omega

theorem sum_bump {l : List Int} {i : Nat} (h : i < l.length) : sumI (bump l i) = sumI l + 1 := by
  obtain ⟨x, hx⟩ : ∃ x, l[i]? = some x := ⟨_, List.getElem?_eq_getElem h⟩
  have set : ∀ (l : List Int) (i : Nat) (a x : Int), l[i]? = some a → sumI (l.set i x) = sumI l - a + x := by
    intro l
    induction l with
    | nil => intro i a x h; simp at h
    | cons y l ih =>
      intro i a x h
      cases i with
      | zero => simp at h; subst h; rw [List.set_cons_zero, sumI_cons, sumI_cons]; omega
      | succ i => rw [List.set_cons_succ, sumI_cons, sumI_cons, ih i a x (by simpa using h)]; omega
  unfold bump
  rw [getD_at hx, set l i x _ hx]; omega
theorem takeRef_sum : ∀ (c : Nat) (out r : List Int), out.length = r.length → 1 ≤ r.length → sumI (takeRef c out r) = sumI out + c
  | 0, _, _, _, _ => by simp [takeRef]
  | c + 1, out, r, hl, h1 => by
    unfold takeRef
    rw [takeRef_sum c _ _ (by rw [bump_len, List.length_set]; exact hl) (by rw [List.length_set]; exact h1), sum_bump (by rw [hl]; exact argmax_lt r _ h1)]
    omega
theorem shares_sum {P : Int} {W : List Int} (hP : 0 ≤ P) (hW : ∀ w ∈ W, 0 ≤ w) (hA : 1 ≤ sumI W) : sumI (sharesL P W) = P := by
  have lb := left_b hP hW hA
  have hl : 1 ≤ W.length := by
    cases W with
    | nil => simp [sumI] at hA
    | cons _ _ => simp
  unfold sharesL
  rw [takeRef_sum _ _ _ (by simp [baseL, restL]) (by simp [restL]; omega)]
  unfold leftN
  omega
end Go.Am
