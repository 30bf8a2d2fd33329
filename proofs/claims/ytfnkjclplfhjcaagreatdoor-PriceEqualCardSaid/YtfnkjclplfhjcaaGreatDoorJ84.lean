/- Parts 84 of the abstract machine over this program, joined: what each part says stands at its head. -/
import Derived.Test.YtfnkjclplfhjcaaGreatDoorJ81
set_option linter.unusedSimpArgs false
set_option linter.unusedVariables false
/- PLAIN: the search for coins: the specification goes through all coins, the program from the tariff's own ones outwards. -/
namespace Go.Am
open Go

def apart (a b : Int) : Int := if a - b ≤ b - a then b - a else a - b
/-- n is the nearest number with a property, the less of two -/
def Best (p : Int → Prop) (own n : Int) : Prop := 0 ≤ n ∧ n ≤ 500 ∧ p n ∧ ∀ m, 0 ≤ m → m ≤ 500 → p m → apart n own < apart m own ∨ (apart n own = apart m own ∧ n ≤ m)
def Nobody (p : Int → Prop) : Prop := ∀ m, 0 ≤ m → m ≤ 500 → ¬ p m
theorem Best.uniq {p : Int → Prop} {own n m : Int} (h : Best p own n) (h' : Best p own m) : n = m := by
  have h1 := h.2.2.2 m h'.1 h'.2.1 h'.2.2.1
  have h2 := h'.2.2.2 n h.1 h.2.1 h.2.2.1
  omega
theorem Best.not {p : Int → Prop} {own n : Int} (h : Best p own n) : ¬ Nobody p := fun q => q n h.1 h.2.1 h.2.2.1

/-- the best of the numbers below k -/
def BestBelow (p : Int → Prop) (own k : Int) (out : Int) (met : Bool) : Prop :=
  if met then 0 ≤ out ∧ out < k ∧ p out ∧ ∀ m, 0 ≤ m → m < k → p m → apart out own < apart m own ∨ (apart out own = apart m own ∧ out ≤ m) else out = 0 ∧ ∀ m, 0 ≤ m → m < k → ¬ p m
theorem BestBelow.zero (p : Int → Prop) (own : Int) : BestBelow p own 0 0 false := ⟨rfl, fun m h1 h2 => by omega⟩
theorem BestBelow.no {p : Int → Prop} {own k out : Int} {met : Bool} (h : BestBelow p own k out met) (hk : ¬ p k) : BestBelow p own (k + 1) out met := by
  cases met with
  | true =>
    obtain ⟨h1, h2, h3, h4⟩ := h
    refine ⟨h1, by omega, h3, fun m a b c => ?_⟩
    by_cases e : m = k
    · subst e; exact absurd c hk
    · exact h4 m a (by omega) c
  | false =>
    refine ⟨h.1, fun m a b c => ?_⟩
    by_cases e : m = k
    · subst e; exact hk c
    · exact h.2 m a (by omega) c
theorem BestBelow.yes {p : Int → Prop} {own k out : Int} {met : Bool} (h : BestBelow p own k out met) (h0 : 0 ≤ k) (hk : p k) (hb : met = false ∨ apart k own < apart out own) : BestBelow p own (k + 1) k true := by
  refine ⟨h0, by omega, hk, fun m a b c => ?_⟩
  by_cases e : m = k
  · subst e; exact .inr ⟨rfl, Int.le_refl _⟩
  · cases met with
    | true =>
      have hb : apart k own < apart out own := by simpa using hb
      have := h.2.2.2 m a (by omega) c
      omega
    | false => exact absurd c (h.2 m a (by omega))
theorem BestBelow.less {p : Int → Prop} {own k out : Int} (h : BestBelow p own k out true) (hb : ¬ apart k own < apart out own) : BestBelow p own (k + 1) out true := by
  obtain ⟨h1, h2, h3, h4⟩ := h
  refine ⟨h1, by omega, h3, fun m a b c => ?_⟩
  by_cases e : m = k
  · subst e; omega
  · exact h4 m a (by omega) c
theorem BestBelow.all {p : Int → Prop} {own out : Int} {met : Bool} (h : BestBelow p own 501 out met) : if met then Best p own out else out = 0 ∧ Nobody p := by
  cases met with
  | true =>
    obtain ⟨h1, h2, h3, h4⟩ := h
    exact ⟨h1, by omega, h3, fun m a b c => h4 m a (by omega) c⟩
  | false => exact ⟨h.1, fun m a b => h.2 m a (by omega)⟩

/-- none is nearer than so far -/
def Farther (p : Int → Prop) (own k : Int) : Prop := ∀ m, 0 ≤ m → m ≤ 500 → apart m own < k → ¬ p m
theorem Farther.zero (p : Int → Prop) (own : Int) : Farther p own 0 := fun m _ _ h => by unfold apart at h; split at h <;> omega
theorem Farther.next {p : Int → Prop} {own k : Int} (h : Farther p own k) (h1 : 0 ≤ own - k → own - k ≤ 500 → ¬ p (own - k)) (h2 : 0 ≤ own + k → own + k ≤ 500 → ¬ p (own + k)) : Farther p own (k + 1) := by
  intro m a b c hp
  by_cases e : apart m own < k
  · exact h m a b e hp
  · have : m = own - k ∨ m = own + k := by unfold apart at c e; split at c <;> omega
    rcases this with rfl | rfl
    · exact h1 a b hp
    · exact h2 a b hp
theorem Farther.low {p : Int → Prop} {own k : Int} (h : Farther p own k) (hk : 0 ≤ k) (h0 : 0 ≤ own - k) (h1 : own - k ≤ 500) (hp : p (own - k)) : Best p own (own - k) := by
  refine ⟨h0, h1, hp, fun m a b c => ?_⟩
  have e : ¬ apart m own < k := fun e => h m a b e c
  have e1 : apart (own - k) own = k := by unfold apart; split <;> omega
  rw [e1]
  by_cases e2 : k < apart m own
  · exact .inl e2
  · refine .inr ⟨by omega, ?_⟩
    unfold apart at e e2
    split at e <;> omega
theorem Farther.high {p : Int → Prop} {own k : Int} (h : Farther p own k) (hk : 0 ≤ k) (hl : 0 ≤ own - k → own - k ≤ 500 → ¬ p (own - k)) (h0 : 0 ≤ own + k) (h1 : own + k ≤ 500) (hp : p (own + k)) : Best p own (own + k) := by
  refine ⟨h0, h1, hp, fun m a b c => ?_⟩
  have e : ¬ apart m own < k := fun e => h m a b e c
  have e1 : apart (own + k) own = k := by unfold apart; split <;> omega
  rw [e1]
  by_cases e2 : k < apart m own
  · exact .inl e2
  · refine .inr ⟨by omega, ?_⟩
    have : m = own - k ∨ m = own + k := by unfold apart at e e2; split at e <;> omega
    rcases this with rfl | rfl
    · exact absurd c (hl a b)
    · exact Int.le_refl _
theorem Farther.all {p : Int → Prop} {own : Int} (h : Farther p own 501) (h0 : 0 ≤ own) (h1 : own ≤ 500) : Nobody p := by
  intro m a b
  refine h m a b ?_
  unfold apart; split <;> omega
end Go.Am
