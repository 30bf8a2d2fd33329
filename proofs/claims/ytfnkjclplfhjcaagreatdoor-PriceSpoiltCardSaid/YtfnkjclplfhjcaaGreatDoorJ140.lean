/- Parts 140 of the abstract machine over this program, joined: what each part says stands at its head. -/
import Derived.Test.YtfnkjclplfhjcaaGreatDoorJ127
set_option linter.unusedSimpArgs false
set_option linter.unusedVariables false
/- The law of checks, plainly: a text of a sheet of which one digit was changed is the text of no sheet. -/
namespace Go.Am
open Go Go.Proofs

theorem cut_set {c b' : UInt8} (hb' : b' ≠ c) : ∀ (t : Bs) (p : Nat) (b : UInt8), t[p]? = some b → b ≠ c → ∃ i k row, (cutAt c t)[i]? = some row ∧ row[k]? = some b ∧ cutAt c (t.set p b') = (cutAt c t).set i (row.set k b')
  | [], p, b, h, _ => by simp at h
  | a :: l, 0, b, h, hb => by
    have e : a = b := by simpa using h
    subst e
    rw [List.set_cons_zero]
    cases hl : cutAt c l with
    | nil => exact absurd hl (by have := cut_pos c l; intro e; rw [e] at this; simp at this)
    | cons w r =>
      refine ⟨0, 0, a :: w, ?_, rfl, ?_⟩
      · simp [cutAt, hb, hl]
      · simp [cutAt, hb, hb', hl]
  | a :: l, p + 1, b, h, hb => by
    obtain ⟨i, k, row, h1, h2, h3⟩ := cut_set hb' l p b (by simpa using h) hb
    rw [List.set_cons_succ]
    by_cases ha : a = c
    · refine ⟨i + 1, k, row, ?_, h2, ?_⟩
      · simp [cutAt, ha, h1]
      · simp [cutAt, ha, h3]
    · cases hl : cutAt c l with
      | nil => exact absurd hl (by have := cut_pos c l; intro e; rw [e] at this; simp at this)
      | cons w r =>
        rw [hl] at h1 h3
        cases i with
        | zero =>
          have e : w = row := by simpa using h1
          subst e
          refine ⟨0, k + 1, a :: w, ?_, by simpa using h2, ?_⟩
          · simp [cutAt, ha, hl]
          · simp [cutAt, ha, hl, h3]
        | succ i =>
          refine ⟨i + 1, k, row, ?_, h2, ?_⟩
          · simpa [cutAt, ha, hl] using h1
          · simp [cutAt, ha, hl, h3]

theorem ckR_set (i : Nat) (b' : UInt8) : ∀ (r : Bs) (k0 k : Nat) (b : UInt8), r[k]? = some b → ckR i k0 (r.set k b') + b.toNat * (k0 + k + 1) * (i + 1) = ckR i k0 r + b'.toNat * (k0 + k + 1) * (i + 1)
  | [], _, _, _, h => by simp at h
  | a :: r, k0, 0, b, h => by
    have e : a = b := by simpa using h
    subst e
    rw [List.set_cons_zero, Nat.add_zero]
    unfold ckR
    omega
  | a :: r, k0, k + 1, b, h => by
    have ih := ckR_set i b' r (k0 + 1) k b (by simpa using h)
    rw [List.set_cons_succ]
    unfold ckR
    rw [show k0 + (k + 1) + 1 = k0 + 1 + k + 1 by omega]
    omega
theorem ckN_set (row' : Bs) : ∀ (rs : List Bs) (i0 j : Nat) (row : Bs), rs[j]? = some row → ckN i0 (rs.set j row') + ckR (i0 + j) 0 row = ckN i0 rs + ckR (i0 + j) 0 row'
  | [], _, _, _, h => by simp at h
  | a :: rs, i0, 0, row, h => by
    have e : a = row := by simpa using h
    subst e
    rw [List.set_cons_zero, Nat.add_zero]
    unfold ckN
    omega
  | a :: rs, i0, j + 1, row, h => by
    have ih := ckN_set row' rs (i0 + 1) j row (by simpa using h)
    rw [List.set_cons_succ]
    unfold ckN
    rw [show i0 + (j + 1) = i0 + 1 + j by omega]
    omega

theorem end_inj : ∀ c, c < 211 → ∀ d, d < 211 → endB c = endB d → c = d := by
  have key : ∀ c, c < 211 → Nat.beq (((endB c).drop 4).foldl (fun n b => 10 * n + (b.toNat - 48)) 0) c = true := by decide +kernel
  intro c hc d hd e
  have h1 := Nat.eq_of_beq_eq_true (key c hc)
  have h2 := Nat.eq_of_beq_eq_true (key d hd)
  rw [e] at h1
  omega
theorem far_211 : ∀ d, d < 9 → ∀ k, k < 25 → ∀ i, i < 11 → Nat.beq ((d + 1) * (k + 1) * (i + 1) % 211) 0 = false := by decide +kernel

theorem spoilt {s : Sheet} (h : s.ok = true) {p : Nat} {b b' : UInt8} (hp : (textB s)[p]? = some b) (hb : isDig b = true) (hb' : isDig b' = true) (hne : b ≠ b') : parseB ((textB s).set p b') = none := by
  have hok := ok_okS h
  cases hq : parseB ((textB s).set p b') with
  | none => rfl
  | some s' =>
    exfalso
    obtain ⟨hok', ht⟩ := parse_ok hq
    have d10 : ∀ {x : UInt8}, isDig x = true → x ≠ 10 := fun {x} hx e => by rw [e] at hx; exact absurd hx (by decide)
    obtain ⟨i, k, row, h1, h2, h3⟩ := cut_set (d10 hb') (textB s) p b hp (d10 hb)
    have c1 := text_cut hok
    have c2 := text_cut hok'
    rw [ht, h3, c1] at c2
    rw [c1] at h1
    have e1 : wPrice :: ((itemsOfS s).map rowB ++ [lastB s, []]) = rowsB s ++ [lastB s, []] := rfl
    have e2 : wPrice :: ((itemsOfS s').map rowB ++ [lastB s', []]) = rowsB s' ++ [lastB s', []] := rfl
    rw [e1] at h1 c2
    rw [e2] at c2
    have hlen : (rowsB s).length = (rowsB s').length := by
      have := congrArg List.length c2
      simp at this
      omega
    rcases Nat.lt_trichotomy i (rowsB s).length with hi | hi | hi
    · rw [List.set_append_left _ _ hi] at c2
      rw [List.getElem?_append_left hi] at h1
      obtain ⟨r1, r2⟩ := List.append_inj c2 (by rw [List.length_set]; exact hlen)
      have el : lastB s = lastB s' := by simpa using r2
      have hc := end_inj _ (check_lt s) _ (check_lt s') el
      rw [← r1] at hc
      have q1 := ckN_set (row.set k b') (rowsB s) 0 i row h1
      have q2 := ckR_set i b' row 0 k b h2
      rw [Nat.zero_add] at q1 q2
      have hk : k < 25 := by
        have a1 := (List.getElem?_eq_some_iff.1 h2).1
        have a2 := rows_len hok row (List.mem_of_getElem? h1)
        omega
      have hi' : i < 11 := by
        have a1 := rows_count s
        obtain ⟨⟨l1, l2, l3⟩, _⟩ := Sheet.okB_iff.1 h
        omega
      have hb1 := dig_le hb
      have hb2 := dig_le hb'
      have hnn : b.toNat ≠ b'.toNat := fun e => hne (UInt8.toNat_inj.1 e)
      have hm : (b'.toNat * (k + 1) * (i + 1)) % 211 = (b.toNat * (k + 1) * (i + 1)) % 211 := by
        generalize b'.toNat * (k + 1) * (i + 1) = X at q2 ⊢
        generalize b.toNat * (k + 1) * (i + 1) = Y at q2 ⊢
        omega
      have far : ∀ {x y : Nat}, x < y → y ≤ x + 9 → (y * (k + 1) * (i + 1)) % 211 = (x * (k + 1) * (i + 1)) % 211 → False := by
        intro x y hxy hy he
        obtain ⟨d, rfl⟩ : ∃ d, y = x + (d + 1) := ⟨y - x - 1, by omega⟩
        have hf := far_211 d (by omega) k hk i hi'
        have hs : (x + (d + 1)) * (k + 1) * (i + 1) = x * (k + 1) * (i + 1) + (d + 1) * (k + 1) * (i + 1) := by rw [Nat.add_mul, Nat.add_mul]
        rw [hs] at he
        generalize x * (k + 1) * (i + 1) = X at he
        generalize (d + 1) * (k + 1) * (i + 1) = Y at he hf
        have : Y % 211 = 0 := by omega
        rw [this] at hf
        cases hf
      rcases Nat.lt_or_gt_of_ne hnn with q | q
      · exact far q (by omega) hm
      · exact far q (by omega) hm.symm
    · subst hi
      rw [List.set_append_right _ _ (Nat.le_refl _), Nat.sub_self, List.set_cons_zero] at c2
      rw [List.getElem?_append_right (Nat.le_refl _), Nat.sub_self] at h1
      have hr : lastB s = row := by simpa using h1
      subst hr
      obtain ⟨r1, r2⟩ := List.append_inj c2 hlen
      have el : (lastB s).set k b' = lastB s' := by simpa using r2
      have es : lastB s' = lastB s := by unfold lastB; rw [r1]
      rw [es] at el
      have := (List.getElem?_eq_some_iff.1 h2).1
      have h4 : ((lastB s).set k b')[k]? = some b' := List.getElem?_set_self this
      rw [el, h2] at h4
      exact hne (by simpa using h4)
    · have : row = [] := by
        rw [List.getElem?_append_right (by omega)] at h1
        obtain ⟨j, hj⟩ : ∃ j, i - (rowsB s).length = j + 1 := ⟨i - (rowsB s).length - 1, by omega⟩
        rw [hj] at h1
        cases j with
        | zero => simpa using h1.symm
        | succ j => simp at h1
      subst this
      simp at h2
end Go.Am
