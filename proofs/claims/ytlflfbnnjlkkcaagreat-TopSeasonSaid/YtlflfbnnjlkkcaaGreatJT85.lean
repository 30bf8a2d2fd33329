/- Parts T85, T72, U1 of the abstract machine over this program, joined: what each part says stands at its head. -/
import Derived.Test.YtlflfbnnjlkkcaaGreatJT84
import Derived.Test.YtlflfbnnjlkkcaaGreatJT62
import Derived.Test.YtlflfbnnjlkkcaaGreatJT82
set_option linter.unusedSimpArgs false
set_option linter.unusedVariables false
set_option linter.defProp false
namespace Go.Am
open Go Go.Proofs
theorem allocs_ex (l : List AObj) : ∀ h : Heap, allocs l h = h.ex l := by
  induction l with
  | nil => intro h; rfl
  | cons x l ih => intro h; exact ih (h.alloc x)
noncomputable def lenT (T : DT) : Nat := DT.rec (motive := fun _ => Nat) 0 (fun _ _ ih => ih + 1) (fun _ _ _ _ _ ih => ih + 1) (fun _ _ _ _ ih => ih + 1) (fun _ _ _ ih => ih + 1) T
noncomputable def okT (T : DT) : Bool :=
  DT.rec (motive := fun _ => Bool) true (fun v _ ih => samePl v v && ih) (fun n s sub _ ih1 ih2 => natIf n true (Nat.ble 1 s && (Nat.beq (lenT sub) (n * s) && ih1)) && ih2) (fun _ _ _ _ _ => false) (fun _ _ _ _ => false) T
theorem cellsT_len (T : DT) : ∀ k, (cellsT T k).length = lenT T := by
  induction T with
  | nil => intro k; rfl
  | pl v r ih => intro k; exact congrArg (· + 1) (ih k)
  | sl n s sub r ih1 ih2 => intro k; exact congrArg (· + 1) (ih2 _)
  | pt n sub r ih1 ih2 => intro k; exact congrArg (· + 1) (ih2 _)
  | mp es c r ih => intro k; exact congrArg (· + 1) (ih _)
theorem match_at (H : Heap) (T : DT) : ∀ k, okT T = true → (∀ j o, (objsT true T k)[j]? = some o → H.get (k + j) = some o) → matchT H false T (cellsT T k) = true := by
  induction T with
  | nil => intro k _ _; rfl
  | pl v r ih =>
    intro k ho hg
    obtain ⟨h1, h2⟩ := (Bool.and_eq_true _ _).mp (show (samePl v v && okT r) = true from ho)
    exact (Bool.and_eq_true _ _).mpr ⟨h1, ih k h2 hg⟩
  | sl n s sub r ih1 ih2 =>
    intro k ho hg
    obtain ⟨h1, h2⟩ := (Bool.and_eq_true _ _).mp (show (natIf n true (Nat.ble 1 s && (Nat.beq (lenT sub) (n * s) && okT sub)) && okT r) = true from ho)
    refine (Bool.and_eq_true _ _).mpr ⟨?_, ?_⟩
    · cases n with
      | zero => rfl
      | succ n =>
        obtain ⟨h3, h4⟩ := (Bool.and_eq_true _ _).mp (show (Nat.ble 1 s && (Nat.beq (lenT sub) ((n + 1) * s) && okT sub)) = true from h1)
        obtain ⟨h4, h5⟩ := (Bool.and_eq_true _ _).mp h4
        have h4 := Nat.eq_of_beq_eq_true h4
        have g0 : H.get (k + 0) = some (.row (cellsT sub (k + 1)) s true) := hg 0 _ rfl
        have t0 : take? (cellsT sub (k + 1)) 0 ((n + 1) * s) = some (cellsT sub (k + 1)) := by
          rw [take?_some (by rw [cellsT_len]; omega), List.drop_zero, List.take_of_length_le (by rw [cellsT_len]; omega)]
        have m0 : matchT H false sub (cellsT sub (k + 1)) = true := ih1 _ h5 fun j o hj => by
          have hj' := (List.getElem?_eq_some_iff.1 hj).1
          have := hg (j + 1) o (by
            show (AObj.row _ _ _ :: objsT true sub (k + 1) ++ _)[j + 1]? = _
            rw [List.cons_append, List.getElem?_cons_succ, List.getElem?_append_left hj']; exact hj)
          rw [show k + 1 + j = k + (j + 1) by omega]; exact this
        show slIs H false (n + 1) s (matchT H false sub) (.slice (some ⟨k, 0, none⟩) (n + 1) (n + 1)) = true
        unfold slIs
        rw [Nat.add_zero] at g0
        simp only [g0, t0, m0, h3, Nat.beq_refl, Bool.true_or, Bool.and_self]
    · refine ih2 _ h2 fun j o hj => ?_
      cases n with
      | zero =>
        have := hg (j + 1) o (show (AObj.dead :: objsT true r _)[j + 1]? = _ by rw [List.getElem?_cons_succ]; exact hj)
        rw [show k + 1 + natIf 0 0 (cntT sub) + j = k + (j + 1) by show k + 1 + 0 + j = _; omega]; exact this
      | succ n =>
        have := hg (cntT sub + 1 + j) o (by
          show ((AObj.row _ _ _ :: objsT true sub (k + 1)) ++ objsT true r _)[_]? = _
          rw [List.getElem?_append_right (by simp [objsT_len])]
          rw [show cntT sub + 1 + j - (AObj.row (cellsT sub (k + 1)) s true :: objsT true sub (k + 1)).length = j by simp [objsT_len]]
          exact hj)
        rw [show k + 1 + natIf (n + 1) 0 (cntT sub) + j = k + (cntT sub + 1 + j) by show k + 1 + cntT sub + j = _; omega]; exact this
  | pt n sub r ih1 ih2 => intro k ho; cases ho
  | mp es c r ih => intro k ho; cases ho
theorem slIs_fr {h h' : Heap} (hk : HOK h) (f : Fr h h') {n s : Nat} {k k' : List Value → Bool} (hkk : ∀ l, k l = true → k' l = true) {v : Value} (q : slIs h false n s k v = true) : slIs h' false n s k' v = true := by
  unfold slIs at q ⊢
  split at q
  · rename_i a m c
    cases n with
    | zero => exact q
    | succ n =>
      simp only at q ⊢
      obtain ⟨h1, h2⟩ := (Bool.and_eq_true _ _).mp q
      refine (Bool.and_eq_true _ _).mpr ⟨h1, ?_⟩
      split at h2
      · rename_i cells z o hg
        rw [f.get' hk hg]
        obtain ⟨h3, h4⟩ := (Bool.and_eq_true _ _).mp h2
        refine (Bool.and_eq_true _ _).mpr ⟨h3, ?_⟩
        revert h4
        cases take? cells a.off ((n + 1) * s) with
        | none => exact fun h => h
        | some l => exact hkk l
      · cases h2
  · cases q
theorem match_fr {h h' : Heap} (hk : HOK h) (f : Fr h h') (T : DT) : ∀ l, okT T = true → matchT h false T l = true → matchT h' false T l = true := by
  induction T with
  | nil => intro l _ hm; exact hm
  | pl v r ih =>
    intro l ho hm
    obtain ⟨_, h2⟩ := (Bool.and_eq_true _ _).mp (show (samePl v v && okT r) = true from ho)
    cases l with
    | nil => exact hm
    | cons x xs =>
      obtain ⟨h3, h4⟩ := (Bool.and_eq_true _ _).mp (show (samePl v x && matchT h false r xs) = true from hm)
      exact (Bool.and_eq_true _ _).mpr ⟨h3, ih xs h2 h4⟩
  | sl n s sub r ih1 ih2 =>
    intro l ho hm
    obtain ⟨h1, h2⟩ := (Bool.and_eq_true _ _).mp (show (natIf n true (Nat.ble 1 s && (Nat.beq (lenT sub) (n * s) && okT sub)) && okT r) = true from ho)
    cases l with
    | nil => exact hm
    | cons x xs =>
      obtain ⟨h3, h4⟩ := (Bool.and_eq_true _ _).mp (show (slIs h false n s (matchT h false sub) x && matchT h false r xs) = true from hm)
      refine (Bool.and_eq_true _ _).mpr ⟨?_, ih2 xs h2 h4⟩
      cases n with
      | zero => unfold slIs at h3 ⊢; split at h3 <;> first | exact h3 | cases h3
      | succ n =>
        obtain ⟨_, h5⟩ := (Bool.and_eq_true _ _).mp (show (Nat.ble 1 s && (Nat.beq (lenT sub) ((n + 1) * s) && okT sub)) = true from h1)
        obtain ⟨_, h5⟩ := (Bool.and_eq_true _ _).mp h5
        exact slIs_fr hk f (fun l hl => ih1 l h5 hl) h3
  | pt n sub r ih1 ih2 => intro k ho; cases ho
  | mp es c r ih => intro k ho; cases ho
theorem spec_call {f : Nat} {sp : Spec} {args : List Value} {h h' : Heap} {v : Value} (hA : CC.A f = some sp) (hs : sp args h = some (.ret v h' none)) : callF CC (Lim CC) f args h = some (.ret v h' none) := by
  unfold callF; rw [hA]; exact hs
theorem closed_call {f : Nat} {A R : List (Bool × DT)} {args : List Value} {h : Heap} (hA : CC.A f = some (closedSpec A R noSpec)) (hm : matchA h false A args = true) :
    callF CC (Lim CC) f args h = some (.ret (resOf R h.next) (h.ex (objsA true R h.next)) none) := by
  refine spec_call hA ?_
  unfold closedSpec; rw [hm, allocs_ex]
theorem match_one {h : Heap} {T : DT} {l : List Value} (hm : matchT h false T l = true) : matchA h false [(true, T)] [.agg ⟨l⟩] = true := by
  show ((true && matchT h false T l) && true) = true
  rw [hm]; rfl
theorem slIs_of {α : Type} {h : Heap} {v : Value} {xs : List α} {f : α → List Value} {s n : Nat} {k : List Value → Bool} (q : LS h v xs f s) (hne : xs ≠ []) (hs : 1 ≤ s) (hn : n = xs.length) (hm : k (xs.flatMap f) = true) : slIs h false n s k v = true := by
  subst hn
  cases xs with
  | nil => exact absurd rfl hne
  | cons x xs =>
    rcases q with ⟨e, _⟩ | ⟨b, o, sp, c, row, rfl, hr, hx⟩
    · cases e
    · have ht := cells_all xs x o fun i y hy => (hx i y hy).1
      obtain ⟨ob, ho, hr'⟩ := obind_eq hr
      cases ob <;> simp [rowOf] at hr'
      subst hr'
      unfold slIs
      simp only [List.length_cons, Nat.beq_refl, Bool.true_and, ho, ht, hm]
      have : Nat.ble 1 s = true := Nat.ble_eq_true_of_le hs
      rw [this]; simp
end Go.Am

namespace Go.Am
open Go Go.Proofs
def TintS.cells (s : TintS) (v : Value) : List Value := [.int .i64 s.o1, .int .i64 s.o2, .int .i64 s.o3, .int .i64 s.f1.lo, .int .i64 s.f1.hi, .int .i64 s.f2.lo, .int .i64 s.f2.hi, .int .i64 s.f3.lo, .int .i64 s.f3.hi, .int .i64 s.years.lo, .int .i64 s.years.hi, .int .i64 s.off, v]
theorem take_two {l : List Value} {p : Nat} {a b : Value} (h1 : l[p]? = some a) (h2 : l[p + 1]? = some b) : take? l p 2 = some [a, b] := by
  unfold take?
  have : (l.drop p).take 2 = [a, b] := by
    obtain ⟨w1, e1⟩ := List.getElem?_eq_some_iff.1 h1
    obtain ⟨w2, e2⟩ := List.getElem?_eq_some_iff.1 h2
    rw [List.drop_eq_getElem_cons w1, List.drop_eq_getElem_cons w2, e1, e2]; rfl
  rw [this]; rfl
end Go.Am

namespace Go.Am
open Go Go.Proofs
def F49_U1 := A2 @fp_47_0 <| A2 @fp_47_1 <| A2 @fp_47_2 <| A2 @ld_22 <| A2 @ld_44 <| A2 @ld_45 <| A2 @len_22 <| A2 @len_44 @len_45
def F69_U1 := A2 @fp_166_0 <| A2 @fp_166_1 <| A2 @fp_166_2 <| A2 @fp_166_3 <| A2 @ld_163 <| A2 @ld_164 @ld_3
def F139_U1 := A2 @fp_25_0 <| A2 @fp_25_1 <| A2 @fp_47_0 <| A2 @fp_89_0 <| A2 @fp_89_1 <| A2 @fp_89_2 <| A2 @fp_89_3 <| A2 @ld_22 <| A2 @ld_3 @len_22
def F142_U1 := A2 @fp_166_0 <| A2 @fp_166_1 <| A2 @fp_166_2 <| A2 @fp_166_3 <| A2 @ld_163 <| A2 @ld_164 @ld_3
def F232_U1 := A2 @ix_44 <| A2 @ld_89 <| A2 @len_44 <| A2 @part_89 <| A2 @size_44 <| A2 @size_89 <| A2 @und_44 @zero_44
def F233_U1 := A2 @ix_45 <| A2 @ld_166 <| A2 @len_45 <| A2 @part_166 <| A2 @size_166 <| A2 @size_45 <| A2 @und_45 @zero_45
structure IsSheet (h : Heap) (a b c : Value) (s : Sheet) : Prop where
  offs : LS h a s.offs ints 1
  boards : LS h b s.boards Board.cells 5
  tars : LS h c s.tars Tar.cells 5
theorem IsSheet.fr {h h' : Heap} {a b c : Value} {s : Sheet} (q : IsSheet h a b c s) (hk : HOK h) (f : Fr h h') : IsSheet h' a b c s := ⟨q.offs.fr hk f, q.boards.fr hk f, q.tars.fr hk f⟩
theorem in_104 (x lo hi : Int) (h : Heap) : callF CC (Lim CC) 135 [.int .i64 x, .int .i64 lo, .int .i64 hi] h = some (.ret (.bool (inP x lo hi)) h none) := by
  refine CW.eq (CW_in Tryz.f135 (by kernel_rfl) (by kernel_rfl) rfl rfl ?_)
  simp only [Tryz.f135]
  by_cases h1 : x ≥ lo
  · simp (maxDischargeDepth := 30) only [AA, ↓reduceIte, Nat.reduceLT, Nat.reduceEqDiff, Nat.reduceAdd, Nat.reduceMul, reduceCtorEq, Nat.reduceLeDiff, Int.reduceNe, Int.reduceEq, h1]
    simp [inP, show lo ≤ x from h1]
  · simp (maxDischargeDepth := 30) only [AA, ↓reduceIte, Nat.reduceLT, Nat.reduceEqDiff, Nat.reduceAdd, Nat.reduceMul, reduceCtorEq, Nat.reduceLeDiff, Int.reduceNe, Int.reduceEq, h1]
    simp [inP, show ¬ lo ≤ x from h1]
theorem in_76 (x lo hi : Int) (h : Heap) : callF CC (Lim CC) 68 [.int .i64 x, .int .i64 lo, .int .i64 hi] h = some (.ret (.bool (inP x lo hi)) h none) := by
  refine CW.eq (CW_in Tryz.f68 (by kernel_rfl) (by kernel_rfl) rfl rfl ?_)
  simp only [Tryz.f68]
  by_cases h1 : x ≥ lo
  · simp (maxDischargeDepth := 30) only [AA, ↓reduceIte, Nat.reduceLT, Nat.reduceEqDiff, Nat.reduceAdd, Nat.reduceMul, reduceCtorEq, Nat.reduceLeDiff, Int.reduceNe, Int.reduceEq, h1]
    simp [inP, show lo ≤ x from h1]
  · simp (maxDischargeDepth := 30) only [AA, ↓reduceIte, Nat.reduceLT, Nat.reduceEqDiff, Nat.reduceAdd, Nat.reduceMul, reduceCtorEq, Nat.reduceLeDiff, Int.reduceNe, Int.reduceEq, h1]
    simp [inP, show ¬ lo ≤ x from h1]
theorem tariff_33 (p q r : Option Addr) (a b c d e f : Nat) (x : Int) (h : Heap) (hk : HOK h) (he : e ≤ 100) : CW CC 23 [.agg ⟨[.slice p a b, .slice q c d, .slice r e f]⟩, .int .i64 x] h fun v h' => v = .bool (inP x 0 (e - 1)) ∧ Fr h h' := by
  refine CW_in Tryz.f23 (by kernel_rfl) (by kernel_rfl) rfl rfl ?_
  simp only [Tryz.f23]
  simp (maxDischargeDepth := 30) only [AA, ↓reduceIte, Nat.reduceLT, Nat.reduceEqDiff, Nat.reduceAdd, Nat.reduceMul, reduceCtorEq, Nat.reduceLeDiff, Int.reduceNe, Int.reduceEq, fp_47_2, ld_45, len_45, hk, wrap64 (n := (e : Int) - 1) (by omega) (by omega), in_76]
  exact ⟨trivial, (Fr.refl hk).alloc _⟩
def Tar.ok (t : Tar) : Bool := decide (1 ≤ t.kind ∧ t.kind ≤ 4 ∧ 1 ≤ t.rule ∧ t.rule ≤ 4 ∧ 0 ≤ t.coins ∧ t.coins ≤ 500 ∧ 1 ≤ t.units ∧ t.units ≤ 12)
theorem Tar.ok_eq (k c u r : Int) (e : Bool) : (decide (k ≥ 1) && (decide (k ≤ 4) && (decide (r ≥ 1) && (decide (r ≤ 4) && (inP c 0 500 && inP u 1 12))))) = Tar.ok ⟨k, c, u, r, e⟩ := by
  simp only [Tar.ok, inP]
  rw [Bool.eq_iff_iff]
  simp
  omega
theorem isTariff_88 (t : Tar) (h : Heap) (hk : HOK h) : CW CC 142 [.agg ⟨t.cells⟩] h fun v h' => v = .bool t.ok ∧ Fr h h' := by
  obtain ⟨k, c, u, r, e⟩ := t
  refine CW_in Tryz.f142 (by kernel_rfl) (by kernel_rfl) rfl rfl ?_
  simp only [Tryz.f142, Tar.cells]
  have go := Tar.ok_eq k c u r e
  cases c1 : decide (k ≥ 1) with
  | false =>
    simp (maxDischargeDepth := 30) only [AA, ↓reduceIte, Nat.reduceLT, Nat.reduceEqDiff, Nat.reduceAdd, Nat.reduceMul, reduceCtorEq, Nat.reduceLeDiff, Int.reduceNe, Int.reduceEq, F142_U1, hk, in_104, c1]
    exact ⟨by first | (rw [← go]; simp only [c1, Bool.true_and, Bool.false_and, Bool.not_true, Bool.not_false, Bool.and_false, Bool.and_true]) | (rw [← go]; simp [c1]), (Fr.refl hk).alloc _⟩
  | true =>
  cases c2 : decide (k ≤ 4) with
  | false =>
    simp (maxDischargeDepth := 30) only [AA, ↓reduceIte, Nat.reduceLT, Nat.reduceEqDiff, Nat.reduceAdd, Nat.reduceMul, reduceCtorEq, Nat.reduceLeDiff, Int.reduceNe, Int.reduceEq, F142_U1, hk, in_104, c1, c2]
    exact ⟨by first | (rw [← go]; simp only [c1, c2, Bool.true_and, Bool.false_and, Bool.not_true, Bool.not_false, Bool.and_false, Bool.and_true]) | (rw [← go]; simp [c1, c2]), (Fr.refl hk).alloc _⟩
  | true =>
  cases c3 : decide (r ≥ 1) with
  | false =>
    simp (maxDischargeDepth := 30) only [AA, ↓reduceIte, Nat.reduceLT, Nat.reduceEqDiff, Nat.reduceAdd, Nat.reduceMul, reduceCtorEq, Nat.reduceLeDiff, Int.reduceNe, Int.reduceEq, F142_U1, hk, in_104, c1, c2, c3]
    exact ⟨by first | (rw [← go]; simp only [c1, c2, c3, Bool.true_and, Bool.false_and, Bool.not_true, Bool.not_false, Bool.and_false, Bool.and_true]) | (rw [← go]; simp [c1, c2, c3]), (Fr.refl hk).alloc _⟩
  | true =>
  cases c4 : decide (r ≤ 4) with
  | false =>
    simp (maxDischargeDepth := 30) only [AA, ↓reduceIte, Nat.reduceLT, Nat.reduceEqDiff, Nat.reduceAdd, Nat.reduceMul, reduceCtorEq, Nat.reduceLeDiff, Int.reduceNe, Int.reduceEq, F142_U1, hk, in_104, c1, c2, c3, c4]
    exact ⟨by first | (rw [← go]; simp only [c1, c2, c3, c4, Bool.true_and, Bool.false_and, Bool.not_true, Bool.not_false, Bool.and_false, Bool.and_true]) | (rw [← go]; simp [c1, c2, c3, c4]), (Fr.refl hk).alloc _⟩
  | true =>
  cases c5 : inP c 0 500 with
  | false =>
    simp (maxDischargeDepth := 30) only [AA, ↓reduceIte, Nat.reduceLT, Nat.reduceEqDiff, Nat.reduceAdd, Nat.reduceMul, reduceCtorEq, Nat.reduceLeDiff, Int.reduceNe, Int.reduceEq, F142_U1, hk, in_104, c1, c2, c3, c4, c5]
    exact ⟨by first | (rw [← go]; simp only [c1, c2, c3, c4, c5, Bool.true_and, Bool.false_and, Bool.not_true, Bool.not_false, Bool.and_false, Bool.and_true]) | (rw [← go]; simp [c1, c2, c3, c4, c5]), (Fr.refl hk).alloc _⟩
  | true =>
  simp (maxDischargeDepth := 30) only [AA, ↓reduceIte, Nat.reduceLT, Nat.reduceEqDiff, Nat.reduceAdd, Nat.reduceMul, reduceCtorEq, Nat.reduceLeDiff, Int.reduceNe, Int.reduceEq, F142_U1, hk, in_104, c1, c2, c3, c4, c5]
  exact ⟨by first | (rw [← go]; simp only [c1, c2, c3, c4, c5, Bool.true_and, Bool.false_and, Bool.not_true, Bool.not_false, Bool.and_false, Bool.and_true]) | (rw [← go]; simp [c1, c2, c3, c4, c5]), (Fr.refl hk).alloc _⟩
theorem Tar.ok_eq' (k c u r : Int) (e : Bool) : (decide (k ≥ 1) && (decide (k ≤ 4) && (inP c 0 500 && (inP u 1 12 && (decide (r ≥ 1) && decide (r ≤ 4)))))) = Tar.ok ⟨k, c, u, r, e⟩ := by
  simp only [Tar.ok, inP]
  rw [Bool.eq_iff_iff]
  simp
  omega
theorem fine_77 (t : Tar) (h : Heap) (hk : HOK h) : CW CC 69 [.agg ⟨t.cells⟩] h fun v h' => v = .bool t.ok ∧ Fr h h' := by
  obtain ⟨k, c, u, r, e⟩ := t
  refine CW_in Tryz.f69 (by kernel_rfl) (by kernel_rfl) rfl rfl ?_
  simp only [Tryz.f69, Tar.cells]
  have go := Tar.ok_eq' k c u r e
  cases c1 : decide (k ≥ 1) with
  | false =>
    simp (maxDischargeDepth := 30) only [AA, ↓reduceIte, Nat.reduceLT, Nat.reduceEqDiff, Nat.reduceAdd, Nat.reduceMul, reduceCtorEq, Nat.reduceLeDiff, Int.reduceNe, Int.reduceEq, F69_U1, hk, in_76, c1]
    exact ⟨by first | (rw [← go]; simp only [c1, Bool.true_and, Bool.false_and, Bool.not_true, Bool.not_false, Bool.and_false, Bool.and_true]) | (rw [← go]; simp [c1]), (Fr.refl hk).alloc _⟩
  | true =>
  cases c2 : decide (k ≤ 4) with
  | false =>
    simp (maxDischargeDepth := 30) only [AA, ↓reduceIte, Nat.reduceLT, Nat.reduceEqDiff, Nat.reduceAdd, Nat.reduceMul, reduceCtorEq, Nat.reduceLeDiff, Int.reduceNe, Int.reduceEq, F69_U1, hk, in_76, c1, c2]
    exact ⟨by first | (rw [← go]; simp only [c1, c2, Bool.true_and, Bool.false_and, Bool.not_true, Bool.not_false, Bool.and_false, Bool.and_true]) | (rw [← go]; simp [c1, c2]), (Fr.refl hk).alloc _⟩
  | true =>
  cases c3 : inP c 0 500 with
  | false =>
    simp (maxDischargeDepth := 30) only [AA, ↓reduceIte, Nat.reduceLT, Nat.reduceEqDiff, Nat.reduceAdd, Nat.reduceMul, reduceCtorEq, Nat.reduceLeDiff, Int.reduceNe, Int.reduceEq, F69_U1, hk, in_76, c1, c2, c3]
    exact ⟨by first | (rw [← go]; simp only [c1, c2, c3, Bool.true_and, Bool.false_and, Bool.not_true, Bool.not_false, Bool.and_false, Bool.and_true]) | (rw [← go]; simp [c1, c2, c3]), (Fr.refl hk).alloc _⟩
  | true =>
  cases c4 : inP u 1 12 with
  | false =>
    simp (maxDischargeDepth := 30) only [AA, ↓reduceIte, Nat.reduceLT, Nat.reduceEqDiff, Nat.reduceAdd, Nat.reduceMul, reduceCtorEq, Nat.reduceLeDiff, Int.reduceNe, Int.reduceEq, F69_U1, hk, in_76, c1, c2, c3, c4]
    exact ⟨by first | (rw [← go]; simp only [c1, c2, c3, c4, Bool.true_and, Bool.false_and, Bool.not_true, Bool.not_false, Bool.and_false, Bool.and_true]) | (rw [← go]; simp [c1, c2, c3, c4]), (Fr.refl hk).alloc _⟩
  | true =>
  cases c5 : decide (r ≥ 1) with
  | false =>
    simp (maxDischargeDepth := 30) only [AA, ↓reduceIte, Nat.reduceLT, Nat.reduceEqDiff, Nat.reduceAdd, Nat.reduceMul, reduceCtorEq, Nat.reduceLeDiff, Int.reduceNe, Int.reduceEq, F69_U1, hk, in_76, c1, c2, c3, c4, c5]
    exact ⟨by first | (rw [← go]; simp only [c1, c2, c3, c4, c5, Bool.true_and, Bool.false_and, Bool.not_true, Bool.not_false, Bool.and_false, Bool.and_true]) | (rw [← go]; simp [c1, c2, c3, c4, c5]), (Fr.refl hk).alloc _⟩
  | true =>
  simp (maxDischargeDepth := 30) only [AA, ↓reduceIte, Nat.reduceLT, Nat.reduceEqDiff, Nat.reduceAdd, Nat.reduceMul, reduceCtorEq, Nat.reduceLeDiff, Int.reduceNe, Int.reduceEq, F69_U1, hk, in_76, c1, c2, c3, c4, c5]
  exact ⟨by first | (rw [← go]; simp only [c1, c2, c3, c4, c5, Bool.true_and, Bool.false_and, Bool.not_true, Bool.not_false, Bool.and_false, Bool.and_true]) | (rw [← go]; simp [c1, c2, c3, c4, c5]), (Fr.refl hk).alloc _⟩
def Board.ok (m : Nat) (b : Board) : Bool := decide (0 ≤ b.L ∧ b.L ≤ 60 ∧ 0 ≤ b.F ∧ b.F ≤ 40 ∧ 0 ≤ b.lo ∧ b.lo ≤ 40 ∧ b.lo ≤ b.hi ∧ b.hi ≤ 40 ∧ b.hi - b.lo ≤ 6 ∧ 0 ≤ b.ow ∧ b.ow ≤ m - 1)
theorem Board.ok_eq (L F lo hi ow : Int) (n : Nat) : (inP L 0 60 && (inP F 0 40 && (inP lo 0 40 && (inP hi lo 40 && (decide (hi - lo ≤ 6) && inP ow 0 (n - 1)))))) = Board.ok n ⟨L, F, lo, hi, ow⟩ := by
  simp only [Board.ok, inP]
  rw [Bool.eq_iff_iff]
  simp
  omega
theorem isBoard_116 (p q r : Option Addr) (a b c d e f : Nat) (x : Board) (h : Heap) (hk : HOK h) (ha : a ≤ 100) : CW CC 139 [.agg ⟨[.slice p a b, .slice q c d, .slice r e f]⟩, .agg ⟨x.cells⟩] h fun v h' => v = .bool (x.ok a) ∧ Fr h h' := by
  obtain ⟨L, F, lo, hi, ow⟩ := x
  refine CW_in Tryz.f139 (by kernel_rfl) (by kernel_rfl) rfl rfl ?_
  simp only [Tryz.f139, Board.cells]
  have go := Board.ok_eq L F lo hi ow a
  have w2 : IntKind.i64.wrap ((a : Int) - 1) = a - 1 := wrap64 (by omega) (by omega)
  cases c1 : inP L 0 60 with
  | false =>
    simp (maxDischargeDepth := 30) only [AA, ↓reduceIte, Nat.reduceLT, Nat.reduceEqDiff, Nat.reduceAdd, Nat.reduceMul, reduceCtorEq, Nat.reduceLeDiff, Int.reduceNe, Int.reduceEq, F139_U1, hk, in_104, w2, c1]
    exact ⟨by first | (rw [← go]; simp only [c1, Bool.true_and, Bool.false_and, Bool.not_true, Bool.not_false, Bool.and_false, Bool.and_true]) | (rw [← go]; simp [c1]), (Fr.refl hk).alloc _ |>.alloc _⟩
  | true =>
  cases c2 : inP F 0 40 with
  | false =>
    simp (maxDischargeDepth := 30) only [AA, ↓reduceIte, Nat.reduceLT, Nat.reduceEqDiff, Nat.reduceAdd, Nat.reduceMul, reduceCtorEq, Nat.reduceLeDiff, Int.reduceNe, Int.reduceEq, F139_U1, hk, in_104, w2, c1, c2]
    exact ⟨by first | (rw [← go]; simp only [c1, c2, Bool.true_and, Bool.false_and, Bool.not_true, Bool.not_false, Bool.and_false, Bool.and_true]) | (rw [← go]; simp [c1, c2]), (Fr.refl hk).alloc _ |>.alloc _⟩
  | true =>
  cases c3 : inP lo 0 40 with
  | false =>
    simp (maxDischargeDepth := 30) only [AA, ↓reduceIte, Nat.reduceLT, Nat.reduceEqDiff, Nat.reduceAdd, Nat.reduceMul, reduceCtorEq, Nat.reduceLeDiff, Int.reduceNe, Int.reduceEq, F139_U1, hk, in_104, w2, c1, c2, c3]
    exact ⟨by first | (rw [← go]; simp only [c1, c2, c3, Bool.true_and, Bool.false_and, Bool.not_true, Bool.not_false, Bool.and_false, Bool.and_true]) | (rw [← go]; simp [c1, c2, c3]), (Fr.refl hk).alloc _ |>.alloc _⟩
  | true =>
  cases c4 : inP hi lo 40 with
  | false =>
    simp (maxDischargeDepth := 30) only [AA, ↓reduceIte, Nat.reduceLT, Nat.reduceEqDiff, Nat.reduceAdd, Nat.reduceMul, reduceCtorEq, Nat.reduceLeDiff, Int.reduceNe, Int.reduceEq, F139_U1, hk, in_104, w2, c1, c2, c3, c4]
    exact ⟨by first | (rw [← go]; simp only [c1, c2, c3, c4, Bool.true_and, Bool.false_and, Bool.not_true, Bool.not_false, Bool.and_false, Bool.and_true]) | (rw [← go]; simp [c1, c2, c3, c4]), (Fr.refl hk).alloc _ |>.alloc _⟩
  | true =>
  have := of_decide_eq_true c3
  have := of_decide_eq_true c4
  have w1 : IntKind.i64.wrap (hi - lo) = hi - lo := wrap64 (by omega) (by omega)
  cases c5 : decide (hi - lo ≤ 6) with
  | false =>
    simp (maxDischargeDepth := 30) only [AA, ↓reduceIte, Nat.reduceLT, Nat.reduceEqDiff, Nat.reduceAdd, Nat.reduceMul, reduceCtorEq, Nat.reduceLeDiff, Int.reduceNe, Int.reduceEq, F139_U1, hk, in_104, w2, w1, c1, c2, c3, c4, c5]
    exact ⟨by first | (rw [← go]; simp only [c1, c2, c3, c4, c5, Bool.true_and, Bool.false_and, Bool.not_true, Bool.not_false, Bool.and_false, Bool.and_true]) | (rw [← go]; simp [c1, c2, c3, c4, c5]), (Fr.refl hk).alloc _ |>.alloc _⟩
  | true =>
  simp (maxDischargeDepth := 30) only [AA, ↓reduceIte, Nat.reduceLT, Nat.reduceEqDiff, Nat.reduceAdd, Nat.reduceMul, reduceCtorEq, Nat.reduceLeDiff, Int.reduceNe, Int.reduceEq, F139_U1, hk, in_104, w2, w1, c1, c2, c3, c4, c5]
  exact ⟨by first | (rw [← go]; simp only [c1, c2, c3, c4, c5, Bool.true_and, Bool.false_and, Bool.not_true, Bool.not_false, Bool.and_false, Bool.and_true]) | (rw [← go]; simp [c1, c2, c3, c4, c5]), (Fr.refl hk).alloc _ |>.alloc _⟩
set_option maxRecDepth 10000 in
theorem indexFunc_140 {h : Heap} (hk : HOK h) {v fv : Value} {xs : List Board} (g : Board → Bool) (hv : LS h v xs Board.cells 5) (hl : xs.length ≤ 1000)
    (hcl : ∀ h1, Fr h h1 → ∀ x ∈ xs, ∃ h2, appV CC fv [.agg ⟨x.cells⟩] h1 = some (.ret (.bool (g x)) h2 none) ∧ Fr h1 h2) :
    CW CC 232 [v, fv] h fun r h' => (∃ i : Int, r = .int .i64 i ∧ decide (i ≥ 0) = xs.any g) ∧ Fr h h' := by
  obtain ⟨p, c, rfl, hx⟩ := hv.open
  refine CW_in Tryz.f232 (by kernel_rfl) (by kernel_rfl) rfl rfl ?_
  simp only [Tryz.f232]
  simp (maxDischargeDepth := 30) only [AA, ↓reduceIte, Nat.reduceLT, Nat.reduceEqDiff, Nat.reduceAdd, Nat.reduceMul, reduceCtorEq, Nat.reduceLeDiff, Int.reduceNe, Int.reduceEq, F232_U1, hk]
  refine W_loop xs.length (fun m f h' => ∃ i, i ≤ xs.length ∧ m = xs.length - i ∧ f 0 = .slice p xs.length c ∧ f 1 = fv ∧ f 7 = .int .i64 xs.length ∧ f 8 = .int .i64 i ∧ (∀ (j : Nat) x, j < i → xs[j]? = some x → g x = false) ∧ Fr h h')
    ⟨0, by omega, by omega, by simp [upd_at, argsFn_at], by simp [upd_at, argsFn_at], by simp [upd_at, argsFn_at], by simp [upd_at], fun j x hj => by omega, Fr.refl hk⟩ ?_
  rintro m f h' ⟨i, hi, rfl, f0, f1, f7, f8, hall, fr⟩ ih
  have hk' := fr.ok
  by_cases hil : i < xs.length
  · have hlt : decide ((i : Int) < (xs.length : Int)) = true := by simp; omega
    obtain ⟨x, g1⟩ : ∃ x, xs[i]? = some x := ⟨_, List.getElem?_eq_getElem hil⟩
    rcases hx with hx | ⟨b, o, sp, row, rfl, hr, hx⟩
    · rw [hx] at hil; simp at hil
    have k1 : take? row (o + i * 5) 5 = some (x.cells) := (hx i x g1).1
    have hr' := fr.row' hk hr
    obtain ⟨h2, e2, fr2⟩ := hcl h' fr x (List.mem_of_getElem? g1)
    cases hg : g x with
    | true =>
      rw [hg] at e2
      simp (maxDischargeDepth := 30) only [AA, ↓reduceIte, Nat.reduceLT, Nat.reduceEqDiff, Nat.reduceAdd, Nat.reduceMul, reduceCtorEq, Nat.reduceLeDiff, Int.reduceNe, Int.reduceEq, F232_U1, hk', f0, f1, f7, f8, hlt, hil, hr', Nat.mul_one, k1, e2]
      refine ⟨⟨_, rfl, ?_⟩, fr.trans fr2⟩
      have : xs.any g = true := List.any_eq_true.2 ⟨x, List.mem_of_getElem? g1, hg⟩
      rw [this]; simp
    | false =>
      rw [hg] at e2
      have w : IntKind.i64.wrap ((i : Int) + 1) = ((i + 1 : Nat) : Int) := by rw [wrap64 (by omega) (by omega)]; omega
      simp (maxDischargeDepth := 30) only [AA, ↓reduceIte, Nat.reduceLT, Nat.reduceEqDiff, Nat.reduceAdd, Nat.reduceMul, reduceCtorEq, Nat.reduceLeDiff, Int.reduceNe, Int.reduceEq, F232_U1, hk', f0, f1, f7, f8, hlt, hil, hr', Nat.mul_one, k1, e2, w]
      refine ih (xs.length - (i + 1)) _ _ (by omega) ?_
      refine ⟨i + 1, by omega, rfl, by simp [upd_at, f0], by simp [upd_at, f1], by simp [upd_at, f7], by simp [upd_at], fun j y hj hy => ?_, fr.trans fr2⟩
      by_cases hji : j < i
      · exact hall j y hji hy
      · have : j = i := by omega
        subst this
        rw [g1] at hy; simp at hy; subst hy; exact hg
  · have : i = xs.length := by omega
    subst this
    have hlt : decide ((xs.length : Int) < (xs.length : Int)) = false := by simp
    simp (maxDischargeDepth := 30) only [AA, ↓reduceIte, Nat.reduceLT, Nat.reduceEqDiff, Nat.reduceAdd, Nat.reduceMul, reduceCtorEq, Nat.reduceLeDiff, Int.reduceNe, Int.reduceEq, F232_U1, hk', f0, f1, f7, f8, hlt]
    refine ⟨⟨_, rfl, ?_⟩, fr⟩
    have : xs.any g = false := by
      rw [List.any_eq_false]
      intro x hx
      obtain ⟨j, hj⟩ := List.mem_iff_getElem?.1 hx
      simp [hall j x (List.getElem?_eq_some_iff.1 hj).1 hj]
    rw [this]; simp
theorem contains_114 {h : Heap} (hk : HOK h) {v fv : Value} {xs : List Board} (g : Board → Bool) (hv : LS h v xs Board.cells 5) (hl : xs.length ≤ 1000)
    (hcl : ∀ h1, Fr h h1 → ∀ x ∈ xs, ∃ h2, appV CC fv [.agg ⟨x.cells⟩] h1 = some (.ret (.bool (g x)) h2 none) ∧ Fr h1 h2) :
    CW CC 137 [v, fv] h fun r h' => r = .bool (xs.any g) ∧ Fr h h' := by
  obtain ⟨r, h1, e, ⟨i, rfl, hi⟩, fr⟩ := indexFunc_140 hk g hv hl hcl
  refine CW_in Tryz.f137 (by kernel_rfl) (by kernel_rfl) rfl rfl ?_
  simp only [Tryz.f137]
  simp (maxDischargeDepth := 30) only [AA, ↓reduceIte, Nat.reduceLT, Nat.reduceEqDiff, Nat.reduceAdd, Nat.reduceMul, reduceCtorEq, Nat.reduceLeDiff, Int.reduceNe, Int.reduceEq, L_nil, hk, e]
  exact ⟨by rw [hi], fr⟩
set_option maxRecDepth 10000 in
theorem indexFunc_141 {h : Heap} (hk : HOK h) {v fv : Value} {xs : List Tar} (g : Tar → Bool) (hv : LS h v xs Tar.cells 5) (hl : xs.length ≤ 1000)
    (hcl : ∀ h1, Fr h h1 → ∀ x ∈ xs, ∃ h2, appV CC fv [.agg ⟨x.cells⟩] h1 = some (.ret (.bool (g x)) h2 none) ∧ Fr h1 h2) :
    CW CC 233 [v, fv] h fun r h' => (∃ i : Int, r = .int .i64 i ∧ decide (i ≥ 0) = xs.any g) ∧ Fr h h' := by
  obtain ⟨p, c, rfl, hx⟩ := hv.open
  refine CW_in Tryz.f233 (by kernel_rfl) (by kernel_rfl) rfl rfl ?_
  simp only [Tryz.f233]
  simp (maxDischargeDepth := 30) only [AA, ↓reduceIte, Nat.reduceLT, Nat.reduceEqDiff, Nat.reduceAdd, Nat.reduceMul, reduceCtorEq, Nat.reduceLeDiff, Int.reduceNe, Int.reduceEq, F233_U1, hk]
  refine W_loop xs.length (fun m f h' => ∃ i, i ≤ xs.length ∧ m = xs.length - i ∧ f 0 = .slice p xs.length c ∧ f 1 = fv ∧ f 7 = .int .i64 xs.length ∧ f 8 = .int .i64 i ∧ (∀ (j : Nat) x, j < i → xs[j]? = some x → g x = false) ∧ Fr h h')
    ⟨0, by omega, by omega, by simp [upd_at, argsFn_at], by simp [upd_at, argsFn_at], by simp [upd_at, argsFn_at], by simp [upd_at], fun j x hj => by omega, Fr.refl hk⟩ ?_
  rintro m f h' ⟨i, hi, rfl, f0, f1, f7, f8, hall, fr⟩ ih
  have hk' := fr.ok
  by_cases hil : i < xs.length
  · have hlt : decide ((i : Int) < (xs.length : Int)) = true := by simp; omega
    obtain ⟨x, g1⟩ : ∃ x, xs[i]? = some x := ⟨_, List.getElem?_eq_getElem hil⟩
    rcases hx with hx | ⟨b, o, sp, row, rfl, hr, hx⟩
    · rw [hx] at hil; simp at hil
    have k1 : take? row (o + i * 5) 5 = some (x.cells) := (hx i x g1).1
    have hr' := fr.row' hk hr
    obtain ⟨h2, e2, fr2⟩ := hcl h' fr x (List.mem_of_getElem? g1)
    cases hg : g x with
    | true =>
      rw [hg] at e2
      simp (maxDischargeDepth := 30) only [AA, ↓reduceIte, Nat.reduceLT, Nat.reduceEqDiff, Nat.reduceAdd, Nat.reduceMul, reduceCtorEq, Nat.reduceLeDiff, Int.reduceNe, Int.reduceEq, F233_U1, hk', f0, f1, f7, f8, hlt, hil, hr', Nat.mul_one, k1, e2]
      refine ⟨⟨_, rfl, ?_⟩, fr.trans fr2⟩
      have : xs.any g = true := List.any_eq_true.2 ⟨x, List.mem_of_getElem? g1, hg⟩
      rw [this]; simp
    | false =>
      rw [hg] at e2
      have w : IntKind.i64.wrap ((i : Int) + 1) = ((i + 1 : Nat) : Int) := by rw [wrap64 (by omega) (by omega)]; omega
      simp (maxDischargeDepth := 30) only [AA, ↓reduceIte, Nat.reduceLT, Nat.reduceEqDiff, Nat.reduceAdd, Nat.reduceMul, reduceCtorEq, Nat.reduceLeDiff, Int.reduceNe, Int.reduceEq, F233_U1, hk', f0, f1, f7, f8, hlt, hil, hr', Nat.mul_one, k1, e2, w]
      refine ih (xs.length - (i + 1)) _ _ (by omega) ?_
      refine ⟨i + 1, by omega, rfl, by simp [upd_at, f0], by simp [upd_at, f1], by simp [upd_at, f7], by simp [upd_at], fun j y hj hy => ?_, fr.trans fr2⟩
      by_cases hji : j < i
      · exact hall j y hji hy
      · have : j = i := by omega
        subst this
        rw [g1] at hy; simp at hy; subst hy; exact hg
  · have : i = xs.length := by omega
    subst this
    have hlt : decide ((xs.length : Int) < (xs.length : Int)) = false := by simp
    simp (maxDischargeDepth := 30) only [AA, ↓reduceIte, Nat.reduceLT, Nat.reduceEqDiff, Nat.reduceAdd, Nat.reduceMul, reduceCtorEq, Nat.reduceLeDiff, Int.reduceNe, Int.reduceEq, F233_U1, hk', f0, f1, f7, f8, hlt]
    refine ⟨⟨_, rfl, ?_⟩, fr⟩
    have : xs.any g = false := by
      rw [List.any_eq_false]
      intro x hx
      obtain ⟨j, hj⟩ := List.mem_iff_getElem?.1 hx
      simp [hall j x (List.getElem?_eq_some_iff.1 hj).1 hj]
    rw [this]; simp
theorem contains_117 {h : Heap} (hk : HOK h) {v fv : Value} {xs : List Tar} (g : Tar → Bool) (hv : LS h v xs Tar.cells 5) (hl : xs.length ≤ 1000)
    (hcl : ∀ h1, Fr h h1 → ∀ x ∈ xs, ∃ h2, appV CC fv [.agg ⟨x.cells⟩] h1 = some (.ret (.bool (g x)) h2 none) ∧ Fr h1 h2) :
    CW CC 140 [v, fv] h fun r h' => r = .bool (xs.any g) ∧ Fr h h' := by
  obtain ⟨r, h1, e, ⟨i, rfl, hi⟩, fr⟩ := indexFunc_141 hk g hv hl hcl
  refine CW_in Tryz.f140 (by kernel_rfl) (by kernel_rfl) rfl rfl ?_
  simp only [Tryz.f140]
  simp (maxDischargeDepth := 30) only [AA, ↓reduceIte, Nat.reduceLT, Nat.reduceEqDiff, Nat.reduceAdd, Nat.reduceMul, reduceCtorEq, Nat.reduceLeDiff, Int.reduceNe, Int.reduceEq, L_nil, hk, e]
  exact ⟨by rw [hi], fr⟩
theorem sheet_113 (x : Int) (h : Heap) : callF CC (Lim CC) 136 [.int .i64 x] h = some (.ret (.bool (!(inP x 0 100))) h none) := by
  refine CW.eq (CW_in Tryz.f136 (by kernel_rfl) (by kernel_rfl) rfl rfl ?_)
  simp only [Tryz.f136]
  simp (maxDischargeDepth := 30) only [AA, ↓reduceIte, Nat.reduceLT, Nat.reduceEqDiff, Nat.reduceAdd, Nat.reduceMul, reduceCtorEq, Nat.reduceLeDiff, Int.reduceNe, Int.reduceEq, L_nil, in_104]
theorem sheet_118 (t : Tar) (h : Heap) (hk : HOK h) : CW CC 141 [.agg ⟨t.cells⟩] h fun v h' => v = .bool (!t.ok) ∧ Fr h h' := by
  refine CW_in Tryz.f141 (by kernel_rfl) (by kernel_rfl) rfl rfl ?_
  simp only [Tryz.f141]
  obtain ⟨r, h2, e2, rfl, fr2⟩ := isTariff_88 t (h.alloc (.row t.cells 0 true)) (hk.alloc _)
  have k : take? t.cells 0 5 = some t.cells := rfl
  simp (maxDischargeDepth := 30) only [AA, ↓reduceIte, Nat.reduceLT, Nat.reduceEqDiff, Nat.reduceAdd, Nat.reduceMul, reduceCtorEq, Nat.reduceLeDiff, Int.reduceNe, Int.reduceEq, ld_166, hk, k, e2]
  exact ⟨trivial, ((Fr.refl hk).alloc _).trans fr2⟩
theorem sheet_115 {h : Heap} (hk : HOK h) (x : Board) (b : Nat) (p q r : Option Addr) (n1 n2 n3 c1 c2 c3 : Nat) (hr : rowAt h b = some [.slice p n1 c1, .slice q n2 c2, .slice r n3 c3]) (hn : n1 ≤ 100) :
    CW CC 138 [.agg ⟨x.cells⟩, .pointer (some ⟨b, 0, none⟩)] h fun v h' => v = .bool (!(x.ok n1)) ∧ Fr h h' := by
  refine CW_in Tryz.f138 (by kernel_rfl) (by kernel_rfl) rfl rfl ?_
  simp only [Tryz.f138]
  obtain ⟨r, h2, e2, rfl, fr2⟩ := isBoard_116 p q r n1 c1 n2 c2 n3 c3 x (h.alloc (.row x.cells 0 true)) (hk.alloc _) hn
  have k : take? x.cells 0 5 = some x.cells := rfl
  have hb := row_lt hk hr
  simp (maxDischargeDepth := 30) only [AA, ↓reduceIte, Nat.reduceLT, Nat.reduceEqDiff, Nat.reduceAdd, Nat.reduceMul, reduceCtorEq, Nat.reduceLeDiff, Int.reduceNe, Int.reduceEq, ld_47, ld_89, hk, k, hb, hr, e2]
  exact ⟨trivial, ((Fr.refl hk).alloc _).trans fr2⟩
def Sheet.ok (s : Sheet) : Bool := inP s.offs.length 1 3 && (inP s.boards.length 1 4 && (inP s.tars.length 1 3 && (!(s.offs.any fun x => !(inP x 0 100)) && (!(s.boards.any fun b => !(b.ok s.offs.length)) && !(s.tars.any fun t => !t.ok)))))
set_option maxRecDepth 10000 in
theorem isSheet_85 {h : Heap} (hk : HOK h) {a b c : Value} {s : Sheet} (hs : IsSheet h a b c s) :
    CW CC 49 [.agg ⟨[a, b, c]⟩] h fun r h' => r = .bool s.ok ∧ Fr h h' := by
  obtain ⟨p1, c1, rfl, _⟩ := hs.offs.open
  obtain ⟨p2, c2, rfl, _⟩ := hs.boards.open
  obtain ⟨p3, c3, rfl, _⟩ := hs.tars.open
  refine CW_in Tryz.f49 (by kernel_rfl) (by kernel_rfl) rfl rfl ?_
  simp only [Tryz.f49]
  cases i1 : inP s.offs.length 1 3 with
  | false =>
    simp (maxDischargeDepth := 30) only [AA, ↓reduceIte, Nat.reduceLT, Nat.reduceEqDiff, Nat.reduceAdd, Nat.reduceMul, reduceCtorEq, Nat.reduceLeDiff, Int.reduceNe, Int.reduceEq, F49_U1, hk, in_104, i1]
    exact ⟨by simp [Sheet.ok, i1], (Fr.refl hk).alloc _⟩
  | true =>
  cases i2 : inP s.boards.length 1 4 with
  | false =>
    simp (maxDischargeDepth := 30) only [AA, ↓reduceIte, Nat.reduceLT, Nat.reduceEqDiff, Nat.reduceAdd, Nat.reduceMul, reduceCtorEq, Nat.reduceLeDiff, Int.reduceNe, Int.reduceEq, F49_U1, hk, in_104, i1, i2]
    exact ⟨by simp [Sheet.ok, i1, i2], (Fr.refl hk).alloc _⟩
  | true =>
  cases i3 : inP s.tars.length 1 3 with
  | false =>
    simp (maxDischargeDepth := 30) only [AA, ↓reduceIte, Nat.reduceLT, Nat.reduceEqDiff, Nat.reduceAdd, Nat.reduceMul, reduceCtorEq, Nat.reduceLeDiff, Int.reduceNe, Int.reduceEq, F49_U1, hk, in_104, i1, i2, i3]
    exact ⟨by simp [Sheet.ok, i1, i2, i3], (Fr.refl hk).alloc _⟩
  | true =>
  have j1 := of_decide_eq_true i1
  have j2 := of_decide_eq_true i2
  have j3 := of_decide_eq_true i3
  have f1 : Fr h (h.alloc (.row [.slice p1 s.offs.length c1, .slice p2 s.boards.length c2, .slice p3 s.tars.length c3] 0 true)) := (Fr.refl hk).alloc _
  have r1 : rowAt (h.alloc (.row [.slice p1 s.offs.length c1, .slice p2 s.boards.length c2, .slice p3 s.tars.length c3] 0 true)) h.next = some [.slice p1 s.offs.length c1, .slice p2 s.boards.length c2, .slice p3 s.tars.length c3] := rowAt_new _ _ _ _
  obtain ⟨_, h2, e2, rfl, fr2⟩ := contains_ints f1.ok (v := .slice p1 s.offs.length c1) (fv := .func (.func 136) #[] #[]) (xs := s.offs) (fun x => !(inP x 0 100)) (hs.offs.fr hk f1) (by omega) (fun h1 f x _ => ⟨h1, by rw [V_func, sheet_113], Fr.refl f.ok⟩)
  have f2 := f1.trans fr2
  have r2 := fr2.row' f1.ok r1
  cases i4 : (s.offs.any fun x => !(inP x 0 100)) with
  | true =>
    rw [i4] at e2
    simp (maxDischargeDepth := 30) only [AA, ↓reduceIte, Nat.reduceLT, Nat.reduceEqDiff, Nat.reduceAdd, Nat.reduceMul, reduceCtorEq, Nat.reduceLeDiff, Int.reduceNe, Int.reduceEq, F49_U1, hk, in_104, i1, i2, i3, e2]
    exact ⟨by simp [Sheet.ok, i4], f2⟩
  | false =>
  rw [i4] at e2
  obtain ⟨_, h3, e3, rfl, fr3⟩ := contains_114 f2.ok (v := .slice p2 s.boards.length c2) (fv := .func (.func 138) ⟨[]⟩ ⟨[.pointer (some ⟨h.next, 0, none⟩)]⟩) (xs := s.boards) (fun b => !(b.ok s.offs.length)) (hs.boards.fr hk f2) (by omega) (fun h1 f x _ => by
    obtain ⟨_, h2', e', rfl, fr'⟩ := sheet_115 f.ok x h.next p1 p2 p3 _ _ _ c1 c2 c3 (f.row' f2.ok r2) (by omega)
    exact ⟨h2', by rw [V_clo]; exact e', fr'⟩)
  have f3 := f2.trans fr3
  have r3 := fr3.row' f2.ok r2
  cases i5 : (s.boards.any fun b => !(b.ok s.offs.length)) with
  | true =>
    rw [i5] at e3
    simp (maxDischargeDepth := 30) only [AA, ↓reduceIte, Nat.reduceLT, Nat.reduceEqDiff, Nat.reduceAdd, Nat.reduceMul, reduceCtorEq, Nat.reduceLeDiff, Int.reduceNe, Int.reduceEq, F49_U1, hk, in_104, i1, i2, i3, e2, r2, e3]
    exact ⟨by simp [Sheet.ok, i5], f3⟩
  | false =>
  rw [i5] at e3
  obtain ⟨_, h4, e4, rfl, fr4⟩ := contains_117 f3.ok (v := .slice p3 s.tars.length c3) (fv := .func (.func 141) #[] #[]) (xs := s.tars) (fun t => !t.ok) (hs.tars.fr hk f3) (by omega) (fun h1 f x _ => by
    obtain ⟨_, h2', e', rfl, fr'⟩ := sheet_118 x h1 f.ok
    exact ⟨h2', by rw [V_func]; exact e', fr'⟩)
  have f4 := f3.trans fr4
  simp (maxDischargeDepth := 30) only [AA, ↓reduceIte, Nat.reduceLT, Nat.reduceEqDiff, Nat.reduceAdd, Nat.reduceMul, reduceCtorEq, Nat.reduceLeDiff, Int.reduceNe, Int.reduceEq, F49_U1, hk, in_104, i1, i2, i3, e2, r2, e3, r3, e4]
  exact ⟨by simp [Sheet.ok, i1, i2, i3, i4, i5], f4⟩
theorem isOne_70 {h : Heap} (hk : HOK h) {a b c : Value} {s : Sheet} (hs : IsSheet h a b c s) (t : Int) (hn : s.tars.length ≤ 100) :
    CW CC 73 [.agg ⟨[a, b, c]⟩, .int .i64 t] h fun r h' => r = .bool (s.ok && inP t 0 (s.tars.length - 1)) ∧ Fr h h' := by
  obtain ⟨p1, c1, rfl, _⟩ := hs.offs.open
  obtain ⟨p2, c2, rfl, _⟩ := hs.boards.open
  obtain ⟨p3, c3, rfl, _⟩ := hs.tars.open
  refine CW_in Tryz.f73 (by kernel_rfl) (by kernel_rfl) rfl rfl ?_
  simp only [Tryz.f73]
  have f1 : Fr h (h.alloc (.row [.slice p1 s.offs.length c1, .slice p2 s.boards.length c2, .slice p3 s.tars.length c3] 0 true)) := (Fr.refl hk).alloc _
  have r1 : rowAt (h.alloc (.row [.slice p1 s.offs.length c1, .slice p2 s.boards.length c2, .slice p3 s.tars.length c3] 0 true)) h.next = some [.slice p1 s.offs.length c1, .slice p2 s.boards.length c2, .slice p3 s.tars.length c3] := rowAt_new _ _ _ _
  obtain ⟨_, h2, e2, rfl, fr2⟩ := isSheet_85 f1.ok (hs.fr hk f1)
  have r2 := fr2.row' f1.ok r1
  have w : IntKind.i64.wrap ((s.tars.length : Int) - 1) = s.tars.length - 1 := wrap64 (by omega) (by omega)
  cases i1 : s.ok with
  | false =>
    rw [i1] at e2
    simp (maxDischargeDepth := 30) only [AA, ↓reduceIte, Nat.reduceLT, Nat.reduceEqDiff, Nat.reduceAdd, Nat.reduceMul, reduceCtorEq, Nat.reduceLeDiff, Int.reduceNe, Int.reduceEq, fp_47_2, ld_45, ld_47, len_45, hk, e2]
    exact ⟨rfl, f1.trans fr2⟩
  | true =>
    rw [i1] at e2
    simp (maxDischargeDepth := 30) only [AA, ↓reduceIte, Nat.reduceLT, Nat.reduceEqDiff, Nat.reduceAdd, Nat.reduceMul, reduceCtorEq, Nat.reduceLeDiff, Int.reduceNe, Int.reduceEq, fp_47_2, ld_45, ld_47, len_45, hk, e2, r2, w, in_104]
    exact ⟨by simp, f1.trans fr2⟩
theorem Sheet.ok_len {s : Sheet} (h : s.ok = true) : (1 ≤ s.offs.length ∧ s.offs.length ≤ 3) ∧ (1 ≤ s.boards.length ∧ s.boards.length ≤ 4) ∧ (1 ≤ s.tars.length ∧ s.tars.length ≤ 3) := by
  unfold Sheet.ok at h
  simp only [Bool.and_eq_true, inP, decide_eq_true_eq] at h
  omega
end Go.Am
