/- Parts 103 of the abstract machine over this program, joined: what each part says stands at its head. -/
import Derived.Test.YtfnkjclplfhjcaaGreatDoorJ102
set_option linter.unusedSimpArgs false
set_option linter.unusedVariables false
/- The abstract machine, part 103: contracts of the specification: Share, Owes. -/
namespace Go.Am
open Go Go.Proofs

theorem sumI_upto : ∀ {l : List Int}, (∀ x ∈ l, 0 ≤ x) → ∀ j, 0 ≤ sumI (l.take j) ∧ sumI (l.take j) ≤ sumI l
  | [], _, j => by simp [sumI]
  | y :: l, h, 0 => by have := (sumI_mem h).1; simp [sumI] at this ⊢; exact this
  | y :: l, h, j + 1 => by
    have h1 := h y List.mem_cons_self
    have := sumI_upto (l := l) (fun x hx => h x (List.mem_cons_of_mem _ hx)) j
    rw [List.take_succ_cons, sumI_cons, sumI_cons]
    omega

theorem argmax_succ (r : List Int) (k : Nat) : argmax r (k + 1) = if r.getD k 0 > r.getD (argmax r k) 0 then k else argmax r k := by
  unfold argmax; rw [List.range_succ, List.foldl_append, List.foldl_cons, List.foldl_nil]
theorem argmax_lt (r : List Int) : ∀ k : Nat, 1 ≤ k → argmax r k < k
  | 0, h => absurd h (by omega)
  | k + 1, _ => by
    rw [argmax_succ]
    split
    · omega
    · cases k with
      | zero => exact Nat.zero_lt_one
      | succ k => have := argmax_lt r (k + 1) (by omega); omega
theorem getD_at {r : List Int} {i : Nat} {x : Int} (h : r[i]? = some x) : r.getD i 0 = x := by rw [List.getD_eq_getElem?_getD, h]; rfl

end Go.Am
