/- Parts 81, 82, 83 of the abstract machine over this program, joined: what each part says stands at its head. -/
import Derived.Test.YtfnkjclplfhjcaaGreatDoorJ75
set_option linter.unusedSimpArgs false
set_option linter.unusedVariables false
/- PLAIN: the law of rules: how the four rules stand to one another, for one price and for sums. -/
namespace Go.Am
open Go

theorem rnd_chain {a b : Int} (hb : 1 ≤ b) (ha : 0 ≤ a) : rnd 0 a b ≤ rnd 3 a b ∧ rnd 3 a b ≤ rnd 2 a b ∧ rnd 2 a b ≤ rnd 1 a b ∧ rnd 1 a b ≤ rnd 0 a b + 1 ∧ rnd 0 a b * b ≤ a ∧ a ≤ rnd 1 a b * b ∧ 0 ≤ rnd 0 a b ∧ rnd 0 a b ≤ a ∧ (a % b = 0 → rnd 1 a b = rnd 0 a b) := by
  have e1 : refRnd 1 a b = rnd 0 a b := refRnd_eq hb (by omega) (by omega)
  have e2 : refRnd 2 a b = rnd 1 a b := refRnd_eq hb (by omega) (by omega)
  have e3 : refRnd 3 a b = rnd 2 a b := refRnd_eq hb (by omega) (by omega)
  have e4 : refRnd 4 a b = rnd 3 a b := refRnd_eq hb (by omega) (by omega)
  rw [← e1, ← e2, ← e3, ← e4]
  have hr0 := Int.emod_nonneg a (show b ≠ 0 by omega)
  have hr1 := Int.emod_lt_of_pos a (show 0 < b by omega)
  have e := Int.emod_add_mul_ediv a b
  have d := div_b ha hb
  have er : a - a / b * b = a % b := by rw [Int.mul_comm (a / b) b]; omega
  have c1 : refRnd 1 a b = a / b := by simp [refRnd, refUp]
  have c2 : refRnd 2 a b = if a % b > 0 then a / b + 1 else a / b := by simp [refRnd, refUp, er]
  have c3 : refRnd 3 a b = if 2 * (a % b) ≥ b then a / b + 1 else a / b := by simp [refRnd, refUp, er]
  have c4 : refRnd 4 a b = if 2 * (a % b) > b ∨ (2 * (a % b) = b ∧ a / b % 2 = 1) then a / b + 1 else a / b := by simp [refRnd, refUp, er]
  rw [c1, c2, c3, c4]
  clear c1 c2 c3 c4 e1 e2 e3 e4
  have hm : (a / b + 1) * b = b * (a / b) + b := by rw [Int.add_mul, Int.mul_comm]; omega
  have hm' : a / b * b = b * (a / b) := Int.mul_comm _ _
  refine ⟨?_, ?_, ?_, ?_, ?_, ?_, ?_, ?_, ?_⟩
  · split <;> omega
  · split <;> split <;> omega
  · split <;> split <;> omega
  · split <;> omega
  · omega
  · split
    · rw [hm]; omega
    · rw [hm']; omega
  · omega
  · omega
  · intro h0
    rw [if_neg (by omega)]

/-- what all of them cost, each rounded by a rule -/
def eachSum (c u r : Int) (qs : List Int) : Int := sumI (qs.map fun q => rnd r (q * c) u)
theorem eachSum_cons (c u r q : Int) (qs : List Int) : eachSum c u r (q :: qs) = rnd r (q * c) u + eachSum c u r qs := by
  unfold eachSum; rw [List.map_cons, sumI_cons]

theorem each_chain {c u : Int} (hu : 1 ≤ u) (hc : 0 ≤ c) : ∀ {qs : List Int}, (∀ q ∈ qs, 0 ≤ q) →
    eachSum c u 0 qs ≤ eachSum c u 3 qs ∧ eachSum c u 3 qs ≤ eachSum c u 2 qs ∧ eachSum c u 2 qs ≤ eachSum c u 1 qs ∧ eachSum c u 1 qs ≤ eachSum c u 0 qs + qs.length ∧
      eachSum c u 0 qs * u ≤ sumI qs * c ∧ sumI qs * c ≤ eachSum c u 1 qs * u ∧ 0 ≤ eachSum c u 0 qs ∧ eachSum c u 0 qs ≤ sumI qs * c ∧ (c % u = 0 → eachSum c u 1 qs = eachSum c u 0 qs) := by
  intro qs
  induction qs with
  | nil => intro _; simp [eachSum, sumI]
  | cons q qs ih =>
    intro h
    have h0 := h q List.mem_cons_self
    obtain ⟨i1, i2, i3, i4, i5, i6, i7, i8, i9⟩ := ih fun x hx => h x (List.mem_cons_of_mem _ hx)
    obtain ⟨a1, a2, a3, a4, a5, a6, a7, a8, a9⟩ := rnd_chain (a := q * c) hu (Int.mul_nonneg h0 hc)
    simp only [eachSum_cons, sumI_cons, List.length_cons, Int.add_mul]
    refine ⟨by omega, by omega, by omega, by omega, by omega, by omega, by omega, by omega, fun hd => ?_⟩
    rw [i9 hd, a9 (by rw [Int.mul_emod, hd]; simp)]

/-- all of them rounded at once, and each of them -/
theorem each_all {c u : Int} (hu : 1 ≤ u) (hc : 0 ≤ c) {qs : List Int} (h : ∀ q ∈ qs, 0 ≤ q) : eachSum c u 0 qs ≤ rnd 0 (sumI qs * c) u ∧ rnd 1 (sumI qs * c) u ≤ eachSum c u 1 qs := by
  obtain ⟨_, _, _, _, i5, i6, _, _, _⟩ := each_chain (qs := qs) hu hc h
  constructor
  · show _ ≤ sumI qs * c / u
    exact (Int.le_ediv_iff_mul_le (by omega)).2 i5
  · show (sumI qs * c + u - 1) / u ≤ _
    have : (sumI qs * c + u - 1) / u < eachSum c u 1 qs + 1 := Int.ediv_lt_of_lt_mul (by omega) (by rw [Int.add_mul]; omega)
    omega

def Tar.flip (t : Tar) : Tar := { t with each := !t.each }
theorem Tar.flip_ok {t : Tar} (h : t.ok = true) : t.flip.ok = true := h
theorem qtys_flip (t : Tar) (bs : List Board) (hs : List Int) : qtys t.flip bs hs = qtys t bs hs := rfl
theorem Tar.flip_each (t : Tar) : t.flip.each = !t.each := rfl

theorem paid_each {t : Tar} (he : t.each = true) (r : Int) (bs : List Board) (hs : List Int) : paid (t.by r) bs hs = eachSum t.coins t.units (r - 1) (qtys t bs hs) := by
  unfold paid Tar.by; simp only [he, if_true]; rfl
theorem paid_all {t : Tar} (he : t.each = false) (r : Int) (bs : List Board) (hs : List Int) : paid (t.by r) bs hs = rnd (r - 1) (sumI (qtys t bs hs) * t.coins) t.units := by
  unfold paid Tar.by; simp only [he]; rfl

theorem sumI_len {B : Int} {l : List Int} {n : Nat} (h : ∀ x ∈ l, 0 ≤ x ∧ x ≤ B) (hl : l.length ≤ n) (hB : 0 ≤ B) : 0 ≤ sumI l ∧ sumI l ≤ B * n := by
  have := sumI_bound h
  have : B * (l.length : Int) ≤ B * (n : Int) := Int.mul_le_mul_of_nonneg_left (by omega) hB
  omega

/-- the four rules, one after another -/
theorem rules_chain {t : Tar} {bs : List Board} {hs : List Int} (ht : t.ok = true) (hl : hs.length = bs.length) (hb : 1 ≤ bs.length ∧ bs.length ≤ 4) (hq : ∀ x ∈ qtys t bs hs, 0 ≤ x ∧ x ≤ 60) :
    0 ≤ paid (t.by 1) bs hs ∧ paid (t.by 1) bs hs ≤ paid (t.by 4) bs hs ∧ paid (t.by 4) bs hs ≤ paid (t.by 3) bs hs ∧ paid (t.by 3) bs hs ≤ paid (t.by 2) bs hs ∧ paid (t.by 2) bs hs ≤ 1000000 ∧
      paid (t.by 2) bs hs - paid (t.by 1) bs hs ≤ (if t.each then (bs.length : Int) else 1) ∧ (t.coins % t.units = 0 → paid (t.by 1) bs hs = paid (t.by 2) bs hs) := by
  have tk := Tar.ok_at ht
  have hlen := qtys_len (t := t) hl
  have hs1 := sumI_len (n := 4) hq (by omega) (by omega)
  have hm : sumI (qtys t bs hs) * t.coins ≤ 240 * 500 := Int.mul_le_mul (by omega) (by omega) (by omega) (by omega)
  have hm0 : 0 ≤ sumI (qtys t bs hs) * t.coins := Int.mul_nonneg (by omega) (by omega)
  cases he : t.each with
  | true =>
    obtain ⟨i1, i2, i3, i4, i5, i6, i7, i8, i9⟩ := each_chain (c := t.coins) (u := t.units) (qs := qtys t bs hs) (by omega) (by omega) fun x hx => (hq x hx).1
    rw [paid_each he, paid_each he, paid_each he, paid_each he]
    rw [hlen] at i4
    simp only [if_true]
    refine ⟨i7, i1, i2, i3, ?_, ?_, fun h => (i9 h).symm⟩
    · show eachSum t.coins t.units 1 _ ≤ _
      omega
    · show eachSum t.coins t.units 1 _ - eachSum t.coins t.units 0 _ ≤ _
      omega
  | false =>
    obtain ⟨i1, i2, i3, i4, i5, i6, i7, i8, i9⟩ := rnd_chain (a := sumI (qtys t bs hs) * t.coins) (b := t.units) (by omega) hm0
    rw [paid_all he, paid_all he, paid_all he, paid_all he]
    refine ⟨i7, i1, i2, i3, ?_, ?_, fun h => (i9 (by rw [Int.mul_emod, h]; simp)).symm⟩
    · show rnd 1 _ _ ≤ _
      omega
    · show rnd 1 _ _ - rnd 0 _ _ ≤ (1 : Int)
      omega

/-- each board rounded, and all together -/
theorem rules_flip {t : Tar} {bs : List Board} {hs : List Int} (ht : t.ok = true) (hq : ∀ x ∈ qtys t bs hs, 0 ≤ x ∧ x ≤ 60) :
    (t.each = true → paid (t.by 1) bs hs ≤ paid (t.flip.by 1) bs hs ∧ paid (t.flip.by 2) bs hs ≤ paid (t.by 2) bs hs) ∧
      (t.each = false → paid (t.flip.by 1) bs hs ≤ paid (t.by 1) bs hs ∧ paid (t.by 2) bs hs ≤ paid (t.flip.by 2) bs hs) := by
  have tk := Tar.ok_at ht
  have h := each_all (c := t.coins) (u := t.units) (qs := qtys t bs hs) (by omega) (by omega) fun x hx => (hq x hx).1
  constructor
  · intro he
    have hf : t.flip.each = false := by rw [Tar.flip_each, he]; rfl
    rw [paid_each he, paid_each he, paid_all hf, paid_all hf]
    exact h
  · intro he
    have hf : t.flip.each = true := by rw [Tar.flip_each, he]; rfl
    rw [paid_all he, paid_all he, paid_each hf, paid_each hf]
    exact h

theorem sumI_mem : ∀ {l : List Int}, (∀ x ∈ l, 0 ≤ x) → 0 ≤ sumI l ∧ ∀ x ∈ l, x ≤ sumI l
  | [], _ => ⟨by simp [sumI], fun x hx => by cases hx⟩
  | y :: l, h => by
    have h1 := h y List.mem_cons_self
    obtain ⟨h2, h3⟩ := sumI_mem (l := l) fun x hx => h x (List.mem_cons_of_mem _ hx)
    rw [sumI_cons]
    refine ⟨by omega, fun x hx => ?_⟩
    rcases List.mem_cons.1 hx with rfl | hx
    · omega
    · have := h3 x hx; omega

theorem by_rule (t : Tar) : t.by t.rule = t := rfl
end Go.Am

/- The abstract machine, part 82: copies of lists, and a cell of a copy that is set. -/
namespace Go.Am
open Go Go.Proofs

theorem take?_inv {l : List Value} {o n : Nat} {r : List Value} (h : take? l o n = some r) : r = (l.drop o).take n ∧ r.length = n := by
  unfold take? at h
  cases hb : Nat.beq ((l.drop o).take n).length n with
  | true => rw [hb] at h; simp at h; subst h; exact ⟨rfl, Nat.eq_of_beq_eq_true hb⟩
  | false => rw [hb] at h; simp at h
theorem take?_app {l : List Value} {o n m : Nat} {r q : List Value} (h : take? l o n = some r) (h' : take? l (o + n) m = some q) : take? l o (n + m) = some (r ++ q) := by
  obtain ⟨rfl, h1⟩ := take?_inv h
  obtain ⟨rfl, h2⟩ := take?_inv h'
  have e : (l.drop o).take n ++ (l.drop (o + n)).take m = (l.drop o).take (n + m) := by
    rw [List.take_add, List.drop_drop]
  rw [e]
  have hl : ((l.drop o).take (n + m)).length = n + m := by rw [← e, List.length_append, h1, h2]
  unfold take?
  rw [hl]
  simp

theorem cells_all {α : Type} {row : List Value} {f : α → List Value} {s : Nat} : ∀ (xs : List α) (x0 : α) (o : Nat), (∀ (i : Nat) x, (x0 :: xs)[i]? = some x → take? row (o + i * s) s = some (f x)) → take? row o ((xs.length + 1) * s) = some ((x0 :: xs).flatMap f)
  | [], x0, o, h => by
    have := h 0 x0 rfl
    simpa using this
  | x1 :: xs, x0, o, h => by
    have h0 := h 0 x0 rfl
    have ih := cells_all xs x1 (o + s) fun i x hx => by
      have := h (i + 1) x (by simpa using hx)
      rw [Nat.add_mul, Nat.one_mul] at this
      rw [show o + s + i * s = o + (i * s + s) by omega]
      exact this
    have h0' : take? row o s = some (f x0) := by simpa using h0
    have := take?_app h0' ih
    rw [List.length_cons, show (xs.length + 1 + 1) * s = s + (xs.length + 1) * s by rw [Nat.add_mul (xs.length + 1), Nat.one_mul, Nat.add_comm]]
    exact this

theorem LS.cells {α : Type} {h : Heap} {v : Value} {x0 : α} {xs : List α} {f : α → List Value} {s : Nat} (q : LS h v (x0 :: xs) f s) : sliceCells h s (xs.length + 1) v = some ((x0 :: xs).flatMap f) := by
  rcases q with ⟨e, _⟩ | ⟨b, o, sp, c, row, rfl, h1, h2⟩
  · cases e
  · show obind (rowAt h b) _ = _
    rw [h1]
    exact cells_all xs x0 o fun i x hx => (h2 i x hx).1

/-- a copy of a list -/
theorem copy_at {C : Ctx} {t u : TypeId} {ts : List TypeId} {s : Nat} (ht : AppT C t u s) {α : Type} {h0 h : Heap} (f : Fr h0 h) (hp : 0 < h.next) {v : Value} {xs : List α} {g : α → List Value} (hg : ∀ x, (g x).length = s)
    (h1 : allOne (xs.flatMap g) = true) (hv : LS h v xs g s) (hne : 1 ≤ xs.length) (hn : xs.length ≤ 4294967296) :
    ∃ h', aAppend C (t :: u :: ts) (.slice none 0 0) v h = some (.slice (some ⟨h.next, 0, some s⟩) xs.length xs.length, h') ∧ h'.get h.next = some (.row (xs.flatMap g) s true) ∧ Fr h0 h' ∧ Fr h h' ∧ h'.next = h.next + 1 := by
  cases xs with
  | nil => simp at hne
  | cons x0 xs =>
    obtain ⟨p, c, rfl⟩ := hv.len
    have hl : ((x0 :: xs).flatMap g).length = (xs.length + 1) * s := flat_len hg _
    obtain ⟨h', e1, e2, e3, e4, e5⟩ := append_at (ts := ts) ht (Fr.refl f.ok) hp (SL.nil h.next h s) (x := .slice p (x0 :: xs).length c) (m := xs.length) rfl hv.cells h1 hl (by simpa using hn)
    have e6 : 0 + (xs.length + 1) = (x0 :: xs).length := by simp
    rw [e6] at e1 e2
    rcases e2 with ⟨e2, _, _⟩ | ⟨b, e2, _, _, e7, _⟩
    · simp [sliceTo] at e2
    · have : b = h.next := by simp [sliceTo] at e2; exact e2.symm
      subst this
      exact ⟨h', e1, by simpa using e7, f.trans e3, e3, e4⟩

theorem flat_set {α : Type} {f : α → List Value} {s : Nat} (hf : ∀ x, (f x).length = s) : ∀ (xs : List α) (i : Nat) (x x' : α) (j : Nat) (v : Value), xs[i]? = some x → j < s → f x' = (f x).set j v → (xs.flatMap f).set (i * s + j) v = (xs.set i x').flatMap f
  | [], i, x, x', j, v, h, _, _ => by simp at h
  | y :: ys, 0, x, x', j, v, h, hj, he => by
    simp at h; subst h
    simp only [List.flatMap_cons, List.set_cons_zero, Nat.zero_mul, Nat.zero_add]
    rw [List.set_append_left _ _ (by rw [hf]; exact hj), he]
  | y :: ys, i + 1, x, x', j, v, h, hj, he => by
    have := flat_set hf ys i x x' j v (by simpa using h) hj he
    simp only [List.flatMap_cons, List.set_cons_succ]
    rw [List.set_append_right _ _ (by rw [hf, Nat.add_mul]; omega), hf, ← this]
    congr 2
    rw [Nat.add_mul]; omega

theorem LS.four {h : Heap} {v : Value} {a b c d : Int} (q : LS h v [a, b, c, d] ints 1) : ∃ bl o sp cp row, v = .slice (some ⟨bl, o, sp⟩) 4 cp ∧ rowAt h bl = some row ∧ row[o]? = some (.int .i64 a) ∧ row[o + 1]? = some (.int .i64 b) ∧ row[o + 2]? = some (.int .i64 c) ∧ row[o + 3]? = some (.int .i64 d) := by
  rcases q with ⟨e, _⟩ | ⟨bl, o, sp, cp, row, rfl, h1, h2⟩
  · simp at e
  · have g := fun (i : Nat) (x : Int) (hx : [a, b, c, d][i]? = some x) => (h2 i x hx).2 0 (by omega)
    exact ⟨bl, o, sp, cp, row, rfl, h1, g 0 a rfl, g 1 b rfl, g 2 c rfl, g 3 d rfl⟩
theorem LS.cell {h : Heap} {p : Option Addr} {n c : Nat} {xs : List Int} (q : LS h (.slice p n c) xs ints 1) {i : Nat} {x : Int} (hx : xs[i]? = some x) : ∃ b o sp row, p = some ⟨b, o, sp⟩ ∧ rowAt h b = some row ∧ row[o + i]? = some (.int .i64 x) := by
  rcases q with ⟨rfl, _⟩ | ⟨b, o, sp, cp, row, e, h1, h2⟩
  · simp at hx
  · simp at e
    obtain ⟨rfl, _, _⟩ := e
    refine ⟨b, o, sp, row, rfl, h1, ?_⟩
    have := (h2 i x hx).2 0 (by omega)
    simpa [ints] using this
section
variable (b o : Nat) (sp : Option Nat) (n c : Nat)
theorem ix_0 (h : 0 < n) : aIndexAddr CC 22 (.slice (some ⟨b, o, sp⟩) n c) (.int .i64 0) = some (.pointer (some ⟨b, o, none⟩)) := ix_22 b o sp n c 0 h
theorem ix_1 (h : 1 < n) : aIndexAddr CC 22 (.slice (some ⟨b, o, sp⟩) n c) (.int .i64 1) = some (.pointer (some ⟨b, o + 1, none⟩)) := ix_22 b o sp n c 1 h
theorem ix_2 (h : 2 < n) : aIndexAddr CC 22 (.slice (some ⟨b, o, sp⟩) n c) (.int .i64 2) = some (.pointer (some ⟨b, o + 2, none⟩)) := ix_22 b o sp n c 2 h
theorem ix_3 (h : 3 < n) : aIndexAddr CC 22 (.slice (some ⟨b, o, sp⟩) n c) (.int .i64 3) = some (.pointer (some ⟨b, o + 3, none⟩)) := ix_22 b o sp n c 3 h
end

theorem flat_put {α : Type} {f : α → List Value} {s : Nat} (hf : ∀ x, (f x).length = s) : ∀ (xs : List α) (i : Nat) (x' : α), i < xs.length → (xs.flatMap f).take (i * s) ++ (f x' ++ (xs.flatMap f).drop (i * s + s)) = (xs.set i x').flatMap f
  | [], i, x', h => by simp at h
  | y :: ys, 0, x', h => by
    simp only [List.flatMap_cons, List.set_cons_zero, Nat.zero_mul, Nat.zero_add, List.take_zero, List.nil_append]
    rw [List.drop_append_of_le_length (by rw [hf]; exact Nat.le_refl _), List.drop_of_length_le (l := f y) (by rw [hf]; exact Nat.le_refl _), List.nil_append]
  | y :: ys, i + 1, x', h => by
    have ih := flat_put hf ys i x' (by simpa using h)
    have e1 : (i + 1) * s = (f y).length + i * s := by rw [hf, Nat.add_mul]; omega
    have e2 : (i + 1) * s + s = (f y).length + (i * s + s) := by rw [e1]; omega
    simp only [List.flatMap_cons, List.set_cons_succ]
    rw [e2, e1, ← ih]
    rw [List.take_length_add_append, List.drop_length_add_append, List.append_assoc]

theorem write_put {α : Type} {f : α → List Value} {s : Nat} (hf : ∀ x, (f x).length = s) (hs : 2 ≤ s) {xs : List α} {i : Nat} (x' : α) (hi : i < xs.length) : write? (xs.flatMap f) (i * s) (f x') = some ((xs.set i x').flatMap f) := by
  have hl : i * s + (f x').length ≤ (xs.flatMap f).length := by
    rw [flat_len hf, hf, ← Nat.succ_mul]; exact Nat.mul_le_mul_right s hi
  have : Nat.ble (i * s + (f x').length) (xs.flatMap f).length = true := Nat.ble_eq_true_of_le hl
  have e := flat_put hf xs i x' hi
  have h2 := hf x'
  rw [← e]
  unfold write?
  split
  · rename_i v he; rw [he] at h2; simp at h2; omega
  · rw [this]; rw [hf]

theorem append_row {C : Ctx} {t u : TypeId} {ts : List TypeId} {w : Nat} (ht : AppT C t u w) {h0 h1 : Heap} {out : Value} {cs l : List Value} {n : Nat} (f : Fr h0 h1) (hp : 0 < h1.next) (q : SL h0.next h1 out l w n) (hc : cs.length = w) (hv : allOne cs = true) (hn : n + 1 ≤ 4294967296) :
    ∃ h', aAppend C (t :: u :: ts) out (.slice (some ⟨h1.next, 0, some w⟩) 1 1) (h1.alloc (.row cs w true)) = some (.slice (some ⟨h1.next + 1, 0, some w⟩) (n + 1) (n + 1), h') ∧ SL h0.next h' (.slice (some ⟨h1.next + 1, 0, some w⟩) (n + 1) (n + 1)) (l ++ cs) w (n + 1) ∧ Fr h0 h' ∧ h'.next = h1.next + 2 ∧ ∀ i, i < h1.next → blkOf out ≠ some i → h'.get i = h1.get i := by
  have q' : SL h0.next (h1.alloc (.row cs w true)) out l w n := q.fr f.ok ((Fr.refl f.ok).alloc _)
  obtain ⟨h', e, q2, f2, n2, g2⟩ := append_at (ts := ts) ht (f.alloc (.row cs w true)) (by simp) q' (x := .slice (some ⟨h1.next, 0, some w⟩) 1 1) (new := cs) (m := 0) rfl (by
    show obind (rowAt _ h1.next) (fun cells => take? cells 0 ((0 + 1) * w)) = _
    rw [rowAt_new]
    show take? cs 0 ((0 + 1) * w) = _
    rw [take?_some (by omega), List.drop_zero, List.take_of_length_le (by omega)]) hv (by omega) hn
  exact ⟨h', e, q2, f2, by rw [n2]; simp, fun i hi hb => by rw [g2 i (by simp; omega) hb, Heap.get_alloc_ne _ _ (by omega)]⟩
theorem tars_one (ts : List Tar) : allOne (ts.flatMap Tar.cells) = true := by
  induction ts with
  | nil => rfl
  | cons t ts ih => exact ih
theorem boards_one (ts : List Board) : allOne (ts.flatMap Board.cells) = true := by
  induction ts with
  | nil => rfl
  | cons t ts ih => exact ih
theorem ints_one (ts : List Int) : allOne (ts.flatMap ints) = true := by
  induction ts with
  | nil => rfl
  | cons t ts ih => exact ih
end Go.Am

/- PLAIN: more letters, feet, hours and coins, and less units, never make less be paid. -/
namespace Go.Am
open Go

theorem le_of_mul_le {a b c : Int} (h : a * c ≤ b * c) (hc : 0 < c) : a ≤ b := Int.le_of_mul_le_mul_right h hc
theorem lt_of_mul_lt {a b c : Int} (h : a * c < b * c) (hc : 0 ≤ c) : a < b := Int.lt_of_mul_lt_mul_right h hc

/-- rounding is monotonous -/
theorem refRnd_mono {r a b a' b' : Int} (hb : 1 ≤ b) (hb' : 1 ≤ b') (h : a * b' ≤ a' * b) : refRnd r a b ≤ refRnd r a' b' := by
  have hr0 := Int.emod_nonneg a (show b ≠ 0 by omega)
  have hr1 := Int.emod_lt_of_pos a (show 0 < b by omega)
  have e := Int.emod_add_mul_ediv a b
  have hr0' := Int.emod_nonneg a' (show b' ≠ 0 by omega)
  have hr1' := Int.emod_lt_of_pos a' (show 0 < b' by omega)
  have e' := Int.emod_add_mul_ediv a' b'
  have er : a - a / b * b = a % b := by rw [Int.mul_comm (a / b) b]; omega
  have er' : a' - a' / b' * b' = a' % b' := by rw [Int.mul_comm (a' / b') b']; omega
  unfold refRnd refUp
  rw [er, er']
  generalize a / b = n at *
  generalize a % b = x at *
  generalize a' / b' = n' at *
  generalize a' % b' = x' at *
  subst e e'
  clear er er'
  have bb : 0 < b * b' := Int.mul_pos (by omega) (by omega)
  -- (x + b n) b' ≤ (x' + b' n') b
  have h1 : x * b' + b * b' * n ≤ x' * b + b * b' * n' := by
    have a1 : (x + b * n) * b' = x * b' + b * b' * n := by rw [Int.add_mul, Int.mul_assoc, Int.mul_comm n b', ← Int.mul_assoc]
    have a2 : (x' + b' * n') * b = x' * b + b * b' * n' := by rw [Int.add_mul, Int.mul_comm (b' * n') b, ← Int.mul_assoc]
    rw [a1, a2] at h; exact h
  have hx : 0 ≤ x * b' := Int.mul_nonneg hr0 (by omega)
  have hx' : x' * b < b * b' := by rw [Int.mul_comm b b']; exact Int.mul_lt_mul_of_pos_right hr1' (by omega)
  have hn : n ≤ n' := by
    have : b * b' * n < b * b' * (n' + 1) := by rw [Int.mul_add]; omega
    have := lt_of_mul_lt (a := n) (b := n' + 1) (c := b * b') (by rw [Int.mul_comm n, Int.mul_comm (n' + 1)]; exact this) (by omega)
    omega
  by_cases hlt : n < n'
  · repeat' split
    all_goals omega
  have hE : n = n' := by omega
  subst hE
  have h2 : x * b' ≤ x' * b := by omega
  have u2 : x > 0 → x' > 0 := fun q => by
    by_cases z : x' > 0
    · exact z
    · have : x' = 0 := by omega
      subst this
      have : 0 < x * b' := Int.mul_pos q (by omega)
      omega
  have d1 : 2 * x * b' ≤ 2 * x' * b := by rw [Int.mul_assoc, Int.mul_assoc]; omega
  have u3 : 2 * x ≥ b → 2 * x' ≥ b' := fun q => by
    have : b * b' ≤ 2 * x * b' := Int.mul_le_mul_of_nonneg_right q (by omega)
    exact le_of_mul_le (c := b) (by rw [Int.mul_comm b' b]; omega) (by omega)
  have u4 : 2 * x > b → 2 * x' > b' := fun q => by
    have : b * b' < 2 * x * b' := Int.mul_lt_mul_of_pos_right q (by omega)
    exact lt_of_mul_lt (c := b) (by rw [Int.mul_comm b' b]; omega) (by omega)
  by_cases r2 : r = 2
  · subst r2
    simp only [if_true, decide_eq_true_eq]
    split
    · rename_i q; rw [if_pos (u2 q)]; exact Int.le_refl _
    · split <;> omega
  by_cases r3 : r = 3
  · subst r3
    simp only [show (3 : Int) = 2 ↔ False by decide, if_false, if_true, decide_eq_true_eq]
    split
    · rename_i q; rw [if_pos (u3 q)]; exact Int.le_refl _
    · split <;> omega
  by_cases r4 : r = 4
  · subst r4
    simp only [show (4 : Int) = 2 ↔ False by decide, show (4 : Int) = 3 ↔ False by decide, if_false, if_true, Bool.or_eq_true, Bool.and_eq_true, decide_eq_true_eq, beq_iff_eq]
    split
    · rename_i q
      have : 2 * x' > b' ∨ 2 * x' = b' ∧ n % 2 = 1 := by
        rcases q with q | ⟨q, ev⟩
        · exact .inl (u4 q)
        · have := u3 (by omega)
          by_cases z : 2 * x' > b'
          · exact .inl z
          · exact .inr ⟨by omega, ev⟩
      rw [if_pos this]; exact Int.le_refl _
    · split <;> omega
  · simp [r2, r3, r4]

theorem rnd_mono2 {r a b a' b' : Int} (h1 : 0 ≤ r) (h4 : r ≤ 3) (hb : 1 ≤ b) (hb' : 1 ≤ b') (h : a * b' ≤ a' * b) : rnd r a b ≤ rnd r a' b' := by
  have e1 := refRnd_eq (rule := r + 1) (a := a) hb (by omega) (by omega)
  have e2 := refRnd_eq (rule := r + 1) (a := a') hb' (by omega) (by omega)
  have e : r + 1 - 1 = r := by omega
  rw [e] at e1 e2
  rw [← e1, ← e2]
  exact refRnd_mono hb hb' h

theorem price1_more {t t' : Tar} {q q' : Int} (ht : t.ok = true) (ht' : t'.ok = true) (hr : t'.rule = t.rule) (hc : t.coins ≤ t'.coins) (hu : t'.units ≤ t.units) (hq : 0 ≤ q) (hqq : q ≤ q') : price1 t q ≤ price1 t' q' := by
  have tk := Tar.ok_at ht
  have tk' := Tar.ok_at ht'
  unfold price1
  rw [hr]
  refine rnd_mono2 (by omega) (by omega) (by omega) (by omega) ?_
  have m1 : q * t.coins ≤ q' * t'.coins := Int.mul_le_mul hqq hc (by omega) (by omega)
  exact Int.mul_le_mul m1 hu (by omega) (Int.mul_nonneg (by omega) (by omega))

theorem paid_more {t t' : Tar} {bs bs' : List Board} {l m : List Int} (ht : t.ok = true) (ht' : t'.ok = true) (hr : t'.rule = t.rule) (he : t'.each = t.each) (hc : t.coins ≤ t'.coins) (hu : t'.units ≤ t.units)
    (hb : Below (qtys t bs l) (qtys t' bs' m)) (h0 : ∀ x ∈ qtys t bs l, 0 ≤ x) : paid t bs l ≤ paid t' bs' m := by
  unfold paid
  rw [he]
  split
  · refine Below.sum ⟨by unfold parts; rw [List.length_map, List.length_map]; exact hb.1, fun i x y hx hy => ?_⟩
    unfold parts at hx hy
    rw [List.getElem?_map] at hx hy
    cases e1 : (qtys t bs l)[i]? with
    | none => rw [e1] at hx; simp at hx
    | some p =>
      cases e2 : (qtys t' bs' m)[i]? with
      | none => rw [e2] at hy; simp at hy
      | some q =>
        rw [e1] at hx; rw [e2] at hy
        simp at hx hy
        subst hx; subst hy
        exact price1_more ht ht' hr hc hu (h0 p (List.mem_of_getElem? e1)) (hb.2 i p q e1 e2)
  · exact price1_more ht ht' hr hc hu (sumI_mem h0).1 hb.sum

/- THE LAW -/
def minI (x y : Int) : Int := if y < x then y else x
def maxI (x y : Int) : Int := if x < y then y else x
def moreBy (b : Board) (more : Int) : Int := minI more (40 - b.hi)
def moreBoard (b : Board) (more : Int) : Board := ⟨minI 60 (b.L + more), minI 40 (b.F + more), b.lo + moreBy b more, b.hi + moreBy b more, b.ow⟩
def moreTar (t : Tar) (more less : Int) : Tar := ⟨t.kind, minI 500 (t.coins + more), maxI 1 (t.units - less), t.rule, t.each⟩

theorem Sheet.ok_iff {s : Sheet} : s.ok = true ↔ ((1 ≤ s.offs.length ∧ s.offs.length ≤ 3) ∧ (1 ≤ s.boards.length ∧ s.boards.length ≤ 4) ∧ (1 ≤ s.tars.length ∧ s.tars.length ≤ 3)) ∧ (∀ x ∈ s.offs, inP x 0 100 = true) ∧ (∀ b ∈ s.boards, b.ok s.offs.length = true) ∧ ∀ t ∈ s.tars, t.ok = true := by
  have hx : ∀ {α : Type} (l : List α) (p : α → Bool), (!l.any fun x => !p x) = true ↔ ∀ x ∈ l, p x = true := by intro α l p; simp
  unfold Sheet.ok
  simp only [Bool.and_eq_true, hx]
  constructor
  · rintro ⟨h1, h2, h3, h4, h5, h6⟩
    have h1 := of_decide_eq_true h1
    have h2 := of_decide_eq_true h2
    have h3 := of_decide_eq_true h3
    exact ⟨by omega, h4, h5, h6⟩
  · rintro ⟨h1, h4, h5, h6⟩
    exact ⟨decide_eq_true (by omega), decide_eq_true (by omega), decide_eq_true (by omega), h4, h5, h6⟩

theorem mem_set {α : Type} {l : List α} {i : Nat} {x y : α} (h : y ∈ l.set i x) : y ∈ l ∨ y = x := List.mem_or_eq_of_mem_set h
theorem get_set {α : Type} {l : List α} {i : Nat} {x : α} {j : Nat} {y : α} (h : (l.set i x)[j]? = some y) : (j = i ∧ y = x) ∨ (j ≠ i ∧ l[j]? = some y) := by
  by_cases e : i = j
  · subst e
    have hl : i < l.length := by have := (List.getElem?_eq_some_iff.1 h).1; simpa using this
    rw [List.getElem?_set_self hl] at h
    simp at h; exact .inl ⟨rfl, h.symm⟩
  · rw [List.getElem?_set_ne e] at h
    exact .inr ⟨fun q => e q.symm, h⟩

theorem moreTar_ok {t : Tar} (h : t.ok = true) {more less : Int} (h1 : 0 ≤ more) (h2 : 0 ≤ less) : (moreTar t more less).ok = true ∧ t.coins ≤ (moreTar t more less).coins ∧ (moreTar t more less).units ≤ t.units := by
  have tk := Tar.ok_at h
  have c1 : t.coins ≤ minI 500 (t.coins + more) ∧ 0 ≤ minI 500 (t.coins + more) ∧ minI 500 (t.coins + more) ≤ 500 := by unfold minI; split <;> omega
  have c2 : maxI 1 (t.units - less) ≤ t.units ∧ 1 ≤ maxI 1 (t.units - less) ∧ maxI 1 (t.units - less) ≤ 12 := by unfold maxI; split <;> omega
  refine ⟨decide_eq_true ?_, c1.1, c2.1⟩
  simp only [moreTar]
  omega

theorem moreBoard_ok {b : Board} {n : Nat} (h : b.ok n = true) {more : Int} (h1 : 0 ≤ more) : (moreBoard b more).ok n = true ∧ b.L ≤ (moreBoard b more).L ∧ b.F ≤ (moreBoard b more).F ∧ 0 ≤ moreBy b more := by
  have bk := of_decide_eq_true h
  have e0 : 0 ≤ moreBy b more := by unfold moreBy minI; split <;> omega
  have e1 : moreBy b more ≤ 40 - b.hi := by unfold moreBy minI; split <;> omega
  have l1 : b.L ≤ minI 60 (b.L + more) ∧ minI 60 (b.L + more) ≤ 60 := by unfold minI; split <;> omega
  have f1 : b.F ≤ minI 40 (b.F + more) ∧ minI 40 (b.F + more) ≤ 40 := by unfold minI; split <;> omega
  refine ⟨decide_eq_true ?_, l1.1, f1.1, e0⟩
  simp only [moreBoard]
  omega

theorem qtys_more {t t' : Tar} {bs bs' : List Board} {l m : List Int} (hk : t'.kind = t.kind) (hl : l.length = bs.length) (hm : m.length = bs'.length) (hb : bs.length = bs'.length)
    (h : ∀ (i : Nat) b b' x y, bs[i]? = some b → bs'[i]? = some b' → l[i]? = some x → m[i]? = some y → b.L ≤ b'.L ∧ b.F ≤ b'.F ∧ x ≤ y) : Below (qtys t bs l) (qtys t' bs' m) := by
  refine ⟨by rw [qtys_len hl, qtys_len hm, hb], fun i p q hp hq => ?_⟩
  have hi : i < bs.length := by have := (List.getElem?_eq_some_iff.1 hp).1; rwa [qtys_len hl] at this
  obtain ⟨b, eb⟩ : ∃ b, bs[i]? = some b := ⟨_, List.getElem?_eq_getElem hi⟩
  obtain ⟨b', eb'⟩ : ∃ b, bs'[i]? = some b := ⟨_, List.getElem?_eq_getElem (by omega)⟩
  obtain ⟨x, hx⟩ : ∃ x, l[i]? = some x := ⟨_, List.getElem?_eq_getElem (by omega)⟩
  obtain ⟨y, hy⟩ : ∃ y, m[i]? = some y := ⟨_, List.getElem?_eq_getElem (by omega)⟩
  rw [qtys_get eb hx] at hp
  rw [qtys_get eb' hy] at hq
  simp at hp hq
  subst hp; subst hq
  obtain ⟨h1, h2, h3⟩ := h i b b' x y eb eb' hx hy
  rw [hk]
  unfold qty
  repeat' split
  all_goals omega

def moreSheet (s : Sheet) (i j : Nat) (t : Tar) (b : Board) : Sheet := ⟨s.offs, s.boards.set j b, s.tars.set i t⟩

theorem more_law {s : Sheet} {l : List Int} {i j : Nat} {t : Tar} {b : Board} {x more less : Int} (ok : s.ok = true) (hl : hoursOK s.boards l = true) (ht : s.tars[i]? = some t) (hb : s.boards[j]? = some b) (hx : l[j]? = some x) (h0 : 0 ≤ more) (h1 : 0 ≤ less) :
    (moreSheet s i j (moreTar t more less) (moreBoard b more)).ok = true ∧ hoursOK (s.boards.set j (moreBoard b more)) (l.set j (x + moreBy b more)) = true ∧
      0 ≤ paid t s.boards l ∧ paid t s.boards l ≤ paid (moreTar t more less) (s.boards.set j (moreBoard b more)) (l.set j (x + moreBy b more)) ∧
      ∀ high, paid t s.boards (endsL high s.boards) ≤ paid (moreTar t more less) (s.boards.set j (moreBoard b more)) (endsL high (s.boards.set j (moreBoard b more))) := by
  have tok := Sheet.ok_tars ok t (List.mem_of_getElem? ht)
  have bok := Sheet.ok_boards ok b (List.mem_of_getElem? hb)
  obtain ⟨tok', tc, tu⟩ := moreTar_ok tok h0 h1
  obtain ⟨bok', bl, bf, by0⟩ := moreBoard_ok bok h0
  obtain ⟨k1, k2, k3, k4⟩ := Sheet.ok_iff.1 ok
  obtain ⟨ll, lh⟩ := hoursOK_at hl
  have ok' : (moreSheet s i j (moreTar t more less) (moreBoard b more)).ok = true := by
    refine Sheet.ok_iff.2 ⟨by simpa [moreSheet] using k1, k2, fun y hy => ?_, fun y hy => ?_⟩
    · rcases mem_set hy with q | rfl
      · exact k3 y q
      · exact bok'
    · rcases mem_set hy with q | rfl
      · exact k4 y q
      · exact tok'
  have hl' : hoursOK (s.boards.set j (moreBoard b more)) (l.set j (x + moreBy b more)) = true := by
    refine hoursOK_all (by simp [ll]) fun k y c hy hc => ?_
    simp only [okHour, inP, decide_eq_true_eq]
    rcases get_set hy with ⟨rfl, rfl⟩ | ⟨n1, q1⟩
    · rcases get_set hc with ⟨_, rfl⟩ | ⟨n2, _⟩
      · have := lh _ _ _ hx hb
        simp only [moreBoard]; omega
      · exact absurd rfl n2
    · rcases get_set hc with ⟨rfl, _⟩ | ⟨_, q2⟩
      · exact absurd rfl n1
      · exact lh k y c q1 q2
  refine ⟨ok', hl', ?_, ?_, ?_⟩
  · obtain ⟨b0, b1, _⟩ := between ok tok hl
    omega
  · refine paid_more tok tok' rfl rfl tc tu (qtys_more rfl ll (by simp [ll]) (by simp) fun k c c' y z hc hc' hy hz => ?_) fun y hy => (qtys_b ok hl t y hy).1
    rcases get_set hc' with ⟨rfl, rfl⟩ | ⟨n1, q1⟩
    · rw [hb] at hc; rw [hx] at hy
      simp at hc hy
      subst hc; subst hy
      rcases get_set hz with ⟨_, rfl⟩ | ⟨n2, _⟩
      · exact ⟨bl, bf, by omega⟩
      · exact absurd rfl n2
    · rcases get_set hz with ⟨e, _⟩ | ⟨_, q2⟩
      · exact absurd e n1
      · rw [hc] at q1; rw [hy] at q2
        simp at q1 q2
        subst q1; subst q2
        exact ⟨Int.le_refl _, Int.le_refl _, Int.le_refl _⟩
  · intro high
    refine paid_more tok tok' rfl rfl tc tu (qtys_more rfl (by simp [endsL]) (by simp [endsL]) (by simp) fun k c c' y z hc hc' hy hz => ?_) fun y hy => (qtys_b ok (ends_ok ok high) t y hy).1
    rw [ends_get hc] at hy
    rw [ends_get hc'] at hz
    simp at hy hz
    subst hy; subst hz
    rcases get_set hc' with ⟨rfl, rfl⟩ | ⟨n1, q1⟩
    · rw [hb] at hc
      simp at hc
      subst hc
      refine ⟨bl, bf, ?_⟩
      cases high <;> simp [endOf, moreBoard] <;> omega
    · rw [hc] at q1
      simp at q1
      subst q1
      exact ⟨Int.le_refl _, Int.le_refl _, Int.le_refl _⟩
end Go.Am
