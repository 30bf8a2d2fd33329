/- Parts T85, T86, T87 of the abstract machine over this program, joined: what each part says stands at its head. -/
import Derived.Test.YtlflfbnnjlkkcaaGreatJT84
import Derived.Test.YtlflfbnnjlkkcaaGreatJT74
import Derived.Test.YtlflfbnnjlkkcaaGreatJT81
set_option linter.unusedSimpArgs false
set_option linter.unusedVariables false
/- The abstract machine over this program: data laid in a row of objects match their tree; calls of functions that were run once. -/
namespace Go.Am
open Go Go.Proofs
theorem allocs_ex (l : List AObj) : ∀ h : Heap, allocs l h = h.ex l := by
  induction l with
  | nil => intro h; rfl
  | cons x l ih => intro h; exact ih (h.alloc x)
/-- how many cells a tree has -/
noncomputable def lenT (T : DT) : Nat := DT.rec (motive := fun _ => Nat) 0 (fun _ _ ih => ih + 1) (fun _ _ _ _ _ ih => ih + 1) (fun _ _ _ _ ih => ih + 1) (fun _ _ _ ih => ih + 1) T
/-- a tree of plain cells and lists -/
noncomputable def okT (T : DT) : Bool :=
  DT.rec (motive := fun _ => Bool) true (fun v _ ih => samePl v v && ih) (fun n s sub _ ih1 ih2 => natIf n true (Nat.ble 1 s && (Nat.beq (lenT sub) (n * s) && ih1)) && ih2) (fun _ _ _ _ _ => false) (fun _ _ _ _ => false) T
theorem cellsT_len (T : DT) : ∀ k, (cellsT T k).length = lenT T := by
  induction T with
  | nil => intro k; rfl
  | pl v r ih => intro k; exact congrArg (· + 1) (ih k)
  | sl n s sub r ih1 ih2 => intro k; exact congrArg (· + 1) (ih2 _)
  | pt n sub r ih1 ih2 => intro k; exact congrArg (· + 1) (ih2 _)
  | mp es c r ih => intro k; exact congrArg (· + 1) (ih _)
theorem match_at (H : Heap) (T : DT) : ∀ k, okT T = true → (∀ j o, (objsT true T k)[j]? = some o → H.get (k + j) = some o) → matchT H false T (cellsT T k) = true := by
  induction T with
  | nil => intro k _ _; rfl
  | pl v r ih =>
    intro k ho hg
    obtain ⟨h1, h2⟩ := (Bool.and_eq_true _ _).mp (show (samePl v v && okT r) = true from ho)
    exact (Bool.and_eq_true _ _).mpr ⟨h1, ih k h2 hg⟩
  | sl n s sub r ih1 ih2 =>
    intro k ho hg
    obtain ⟨h1, h2⟩ := (Bool.and_eq_true _ _).mp (show (natIf n true (Nat.ble 1 s && (Nat.beq (lenT sub) (n * s) && okT sub)) && okT r) = true from ho)
    refine (Bool.and_eq_true _ _).mpr ⟨?_, ?_⟩
    · cases n with
      | zero => rfl
      | succ n =>
        obtain ⟨h3, h4⟩ := (Bool.and_eq_true _ _).mp (show (Nat.ble 1 s && (Nat.beq (lenT sub) ((n + 1) * s) && okT sub)) = true from h1)
        obtain ⟨h4, h5⟩ := (Bool.and_eq_true _ _).mp h4
        have h4 := Nat.eq_of_beq_eq_true h4
        have g0 : H.get (k + 0) = some (.row (cellsT sub (k + 1)) s true) := hg 0 _ rfl
        have t0 : take? (cellsT sub (k + 1)) 0 ((n + 1) * s) = some (cellsT sub (k + 1)) := by
          rw [take?_some (by rw [cellsT_len]; omega), List.drop_zero, List.take_of_length_le (by rw [cellsT_len]; omega)]
        have m0 : matchT H false sub (cellsT sub (k + 1)) = true := ih1 _ h5 fun j o hj => by
          have hj' := (List.getElem?_eq_some_iff.1 hj).1
          have := hg (j + 1) o (by
            show (AObj.row _ _ _ :: objsT true sub (k + 1) ++ _)[j + 1]? = _
            rw [List.cons_append, List.getElem?_cons_succ, List.getElem?_append_left hj']; exact hj)
          rw [show k + 1 + j = k + (j + 1) by omega]; exact this
        show slIs H false (n + 1) s (matchT H false sub) (.slice (some ⟨k, 0, none⟩) (n + 1) (n + 1)) = true
        unfold slIs
        rw [Nat.add_zero] at g0
        simp only [g0, t0, m0, h3, Nat.beq_refl, Bool.true_or, Bool.and_self]
    · refine ih2 _ h2 fun j o hj => ?_
      cases n with
      | zero =>
        have := hg (j + 1) o (show (AObj.dead :: objsT true r _)[j + 1]? = _ by rw [List.getElem?_cons_succ]; exact hj)
        rw [show k + 1 + natIf 0 0 (cntT sub) + j = k + (j + 1) by show k + 1 + 0 + j = _; omega]; exact this
      | succ n =>
        have := hg (cntT sub + 1 + j) o (by
          show ((AObj.row _ _ _ :: objsT true sub (k + 1)) ++ objsT true r _)[_]? = _
          rw [List.getElem?_append_right (by simp [objsT_len])]
          rw [show cntT sub + 1 + j - (AObj.row (cellsT sub (k + 1)) s true :: objsT true sub (k + 1)).length = j by simp [objsT_len]]
          exact hj)
        rw [show k + 1 + natIf (n + 1) 0 (cntT sub) + j = k + (cntT sub + 1 + j) by show k + 1 + cntT sub + j = _; omega]; exact this
  | pt n sub r ih1 ih2 => intro k ho; cases ho
  | mp es c r ih => intro k ho; cases ho
theorem slIs_fr {h h' : Heap} (hk : HOK h) (f : Fr h h') {n s : Nat} {k k' : List Value → Bool} (hkk : ∀ l, k l = true → k' l = true) {v : Value} (q : slIs h false n s k v = true) : slIs h' false n s k' v = true := by
  unfold slIs at q ⊢
  split at q
  · rename_i a m c
    cases n with
    | zero => exact q
    | succ n =>
      simp only at q ⊢
      obtain ⟨h1, h2⟩ := (Bool.and_eq_true _ _).mp q
      refine (Bool.and_eq_true _ _).mpr ⟨h1, ?_⟩
      split at h2
      · rename_i cells z o hg
        rw [f.get' hk hg]
        obtain ⟨h3, h4⟩ := (Bool.and_eq_true _ _).mp h2
        refine (Bool.and_eq_true _ _).mpr ⟨h3, ?_⟩
        revert h4
        cases take? cells a.off ((n + 1) * s) with
        | none => exact fun h => h
        | some l => exact hkk l
      · cases h2
  · cases q
theorem match_fr {h h' : Heap} (hk : HOK h) (f : Fr h h') (T : DT) : ∀ l, okT T = true → matchT h false T l = true → matchT h' false T l = true := by
  induction T with
  | nil => intro l _ hm; exact hm
  | pl v r ih =>
    intro l ho hm
    obtain ⟨_, h2⟩ := (Bool.and_eq_true _ _).mp (show (samePl v v && okT r) = true from ho)
    cases l with
    | nil => exact hm
    | cons x xs =>
      obtain ⟨h3, h4⟩ := (Bool.and_eq_true _ _).mp (show (samePl v x && matchT h false r xs) = true from hm)
      exact (Bool.and_eq_true _ _).mpr ⟨h3, ih xs h2 h4⟩
  | sl n s sub r ih1 ih2 =>
    intro l ho hm
    obtain ⟨h1, h2⟩ := (Bool.and_eq_true _ _).mp (show (natIf n true (Nat.ble 1 s && (Nat.beq (lenT sub) (n * s) && okT sub)) && okT r) = true from ho)
    cases l with
    | nil => exact hm
    | cons x xs =>
      obtain ⟨h3, h4⟩ := (Bool.and_eq_true _ _).mp (show (slIs h false n s (matchT h false sub) x && matchT h false r xs) = true from hm)
      refine (Bool.and_eq_true _ _).mpr ⟨?_, ih2 xs h2 h4⟩
      cases n with
      | zero => unfold slIs at h3 ⊢; split at h3 <;> first | exact h3 | cases h3
      | succ n =>
        obtain ⟨_, h5⟩ := (Bool.and_eq_true _ _).mp (show (Nat.ble 1 s && (Nat.beq (lenT sub) ((n + 1) * s) && okT sub)) = true from h1)
        obtain ⟨_, h5⟩ := (Bool.and_eq_true _ _).mp h5
        exact slIs_fr hk f (fun l hl => ih1 l h5 hl) h3
  | pt n sub r ih1 ih2 => intro k ho; cases ho
  | mp es c r ih => intro k ho; cases ho
theorem spec_call {f : Nat} {sp : Spec} {args : List Value} {h h' : Heap} {v : Value} (hA : CC.A f = some sp) (hs : sp args h = some (.ret v h' none)) : callF CC (Lim CC) f args h = some (.ret v h' none) := by
  unfold callF; rw [hA]; exact hs
theorem closed_call {f : Nat} {A R : List (Bool × DT)} {args : List Value} {h : Heap} (hA : CC.A f = some (closedSpec A R noSpec)) (hm : matchA h false A args = true) :
    callF CC (Lim CC) f args h = some (.ret (resOf R h.next) (h.ex (objsA true R h.next)) none) := by
  refine spec_call hA ?_
  unfold closedSpec; rw [hm, allocs_ex]
/-- one argument, an aggregate of cells -/
theorem match_one {h : Heap} {T : DT} {l : List Value} (hm : matchT h false T l = true) : matchA h false [(true, T)] [.agg ⟨l⟩] = true := by
  show ((true && matchT h false T l) && true) = true
  rw [hm]; rfl
end Go.Am

/- The abstract machine over this program: the suite of the document's examples in memory; isStock, isSuite. -/
namespace Go.Am
open Go Go.Proofs
theorem F32_T86 : type_of% (And.intro @fp_38_1 <| And.intro @fp_47_1 <| And.intro @fp_49_0 <| And.intro @fp_49_1 <| And.intro @fp_49_2 <| And.intro @fp_49_3 <| And.intro @fp_49_4 <| And.intro @fp_49_5 <| And.intro @fp_49_6 <| And.intro @ld_22 <| And.intro @ld_28 <| And.intro @ld_32 <| And.intro @ld_35 <| And.intro @ld_38 <| And.intro @ld_43 <| And.intro @ld_44 <| And.intro @ld_47 <| And.intro @len_22 @len_44) := And.intro @fp_38_1 <| And.intro @fp_47_1 <| And.intro @fp_49_0 <| And.intro @fp_49_1 <| And.intro @fp_49_2 <| And.intro @fp_49_3 <| And.intro @fp_49_4 <| And.intro @fp_49_5 <| And.intro @fp_49_6 <| And.intro @ld_22 <| And.intro @ld_28 <| And.intro @ld_32 <| And.intro @ld_35 <| And.intro @ld_38 <| And.intro @ld_43 <| And.intro @ld_44 <| And.intro @ld_47 <| And.intro @len_22 @len_44
/-- the suite of the examples -/
def exD : SuiteD where
  front := ⟨[6, 4, 8], [⟨0, 1, 1, 3⟩, ⟨2, 0, 0, 2⟩], ⟨2, 4⟩, ⟨5, 8⟩, 3, [⟨[2, 0, 1], [], false⟩, ⟨[0, 2], [1], true⟩], 21, 2⟩
  coats := ⟨[⟨6, 8⟩, ⟨4, 6⟩, ⟨8, 10⟩, ⟨2, 4⟩, ⟨6, 6⟩, ⟨5, 9⟩, ⟨8, 12⟩, ⟨4, 4⟩], [0, 1, 2, 3, 4, 5, 6, 7], [⟨9, 20⟩, ⟨10, 20⟩, ⟨8, 30⟩]⟩
  board := ⟨4, [[0, 1], [2, 1], [2, 3]]⟩
  bench := ⟨1, [5, 6], [⟨1, true, 2, 2, []⟩, ⟨0, false, 2, 3, []⟩, ⟨0, true, 1, 2, [1]⟩, ⟨1, false, 1, 3, [0]⟩]⟩
  tints := ⟨60, 40, 20, ⟨1, 2⟩, ⟨1, 1⟩, ⟨0, 0⟩, ⟨5, 5⟩, 5, [⟨⟨80, 82⟩, ⟨20, 20⟩, ⟨0, 2⟩⟩, ⟨⟨20, 22⟩, ⟨60, 60⟩, ⟨40, 40⟩⟩, ⟨⟨50, 50⟩, ⟨10, 12⟩, ⟨30, 30⟩⟩]⟩
  stock := [5, 5, 5]
  prices := ⟨[0, 25], [⟨7, 10, 3, 4, 0⟩, ⟨5, 6, 2, 2, 1⟩], [⟨1, 5, 3, 3, true⟩, ⟨2, 5, 4, 1, false⟩, ⟨3, 4, 1, 2, true⟩]⟩
def slA (b n : Nat) : Value := .slice (some ⟨b, 0, none⟩) n n
def exV (k : Nat) : SuiteV := ⟨slA k 3, slA (k + 1) 2, slA (k + 2) 2, slA (k + 6) 8, slA (k + 7) 8, slA (k + 8) 3, slA (k + 9) 3, slA (k + 13) 2, slA (k + 14) 4, slA (k + 17) 3, slA (k + 18) 3, slA (k + 19) 2, slA (k + 20) 2, slA (k + 21) 3⟩
theorem ex_cells (k : Nat) : cellsT suiteT k = exD.cells (exV k) := by kernel_rfl
/-- the objects of the examples' suite lie at some place -/
def ExObj (H : Heap) (k : Nat) : Prop := ∀ j o, (objsT true suiteT k)[j]? = some o → H.get (k + j) = some o
theorem lp_at {Q : Nat → Prop} {α : Type} {H : Heap} {b s n : Nat} {xs : List α} {f : α → List Value} (hf : ∀ x, (f x).length = s) (hg : H.get b = some (.row (xs.flatMap f) s true)) (hn : n = xs.length) (hq : Q b) : LP Q H (slA b n) xs f s := by
  subst hn
  exact ⟨LS.of_row hf (by unfold rowAt; rw [hg]; rfl), fun _ b' hb => by simp [slA, blkOf] at hb; subst hb; exact hq⟩
theorem lp_nil {Q : Nat → Prop} {α : Type} {H : Heap} {f : α → List Value} {s : Nat} : LP Q H (.slice none 0 0) ([] : List α) f s := ⟨.inl ⟨rfl, _, _, rfl⟩, fun h => absurd rfl h⟩
theorem ex_suite {H : Heap} {k : Nat} (hx : ExObj H k) : IsSuite (fun b => k ≤ b ∧ b < k + 22) H (exV k) exD where
  w := lp_at (b := k + 0) ints_len (hx 0 _ (by kernel_rfl)) rfl ⟨by omega, by omega⟩
  pr := lp_at LPair.len (hx 1 _ (by kernel_rfl)) rfl ⟨by omega, by omega⟩
  wd := ⟨[⟨slA (k + 3) 3, .slice none 0 0, false⟩, ⟨slA (k + 4) 2, slA (k + 5) 1, true⟩], lp_at WordV.len (hx 2 _ (by kernel_rfl)) rfl ⟨by omega, by omega⟩, rfl, fun i u w hu hw => by
    match i, hu, hw with
    | 0, hu, hw => simp at hu; simp [exD] at hw; subst hu; subst hw; exact ⟨lp_at ints_len (hx 3 _ (by kernel_rfl)) rfl ⟨by omega, by omega⟩, lp_nil, rfl⟩
    | 1, hu, hw => simp at hu; simp [exD] at hw; subst hu; subst hw; exact ⟨lp_at ints_len (hx 4 _ (by kernel_rfl)) rfl ⟨by omega, by omega⟩, lp_at ints_len (hx 5 _ (by kernel_rfl)) rfl ⟨by omega, by omega⟩, rfl⟩
    | i + 2, hu, hw => simp at hu⟩
  dry := lp_at Sp.len (hx 6 _ (by kernel_rfl)) rfl ⟨by omega, by omega⟩
  wk := lp_at ints_len (hx 7 _ (by kernel_rfl)) rfl ⟨by omega, by omega⟩
  ct := lp_at CoatC.len (hx 8 _ (by kernel_rfl)) rfl ⟨by omega, by omega⟩
  sp := ⟨[slA (k + 10) 2, slA (k + 11) 2, slA (k + 12) 2], lp_at unit_len (hx 9 _ (by kernel_rfl)) rfl ⟨by omega, by omega⟩, rfl, fun i u w hu hw => by
    match i, hu, hw with
    | 0, hu, hw => simp at hu; simp [exD] at hw; subst hu; subst hw; exact lp_at (n := 2) ints_len (hx 10 _ (by kernel_rfl)) rfl ⟨by omega, by omega⟩
    | 1, hu, hw => simp at hu; simp [exD] at hw; subst hu; subst hw; exact lp_at (n := 2) ints_len (hx 11 _ (by kernel_rfl)) rfl ⟨by omega, by omega⟩
    | 2, hu, hw => simp at hu; simp [exD] at hw; subst hu; subst hw; exact lp_at (n := 2) ints_len (hx 12 _ (by kernel_rfl)) rfl ⟨by omega, by omega⟩
    | i + 3, hu, hw => simp at hu⟩
  bo := lp_at ints_len (hx 13 _ (by kernel_rfl)) rfl ⟨by omega, by omega⟩
  st := ⟨[⟨1, true, 2, 2, .slice none 0 0⟩, ⟨0, false, 2, 3, .slice none 0 0⟩, ⟨0, true, 1, 2, slA (k + 15) 1⟩, ⟨1, false, 1, 3, slA (k + 16) 1⟩], lp_at StrokeV.len (hx 14 _ (by kernel_rfl)) rfl ⟨by omega, by omega⟩, rfl, fun i u w hu hw => by
    match i, hu, hw with
    | 0, hu, hw => simp at hu; simp [exD] at hw; subst hu; subst hw; exact ⟨rfl, rfl, rfl, rfl, lp_nil⟩
    | 1, hu, hw => simp at hu; simp [exD] at hw; subst hu; subst hw; exact ⟨rfl, rfl, rfl, rfl, lp_nil⟩
    | 2, hu, hw => simp at hu; simp [exD] at hw; subst hu; subst hw; exact ⟨rfl, rfl, rfl, rfl, lp_at ints_len (hx 15 _ (by kernel_rfl)) rfl ⟨by omega, by omega⟩⟩
    | 3, hu, hw => simp at hu; simp [exD] at hw; subst hu; subst hw; exact ⟨rfl, rfl, rfl, rfl, lp_at ints_len (hx 16 _ (by kernel_rfl)) rfl ⟨by omega, by omega⟩⟩
    | i + 4, hu, hw => simp at hu⟩
  ti := lp_at Tin.len (hx 17 _ (by kernel_rfl)) rfl ⟨by omega, by omega⟩
  of := lp_at ints_len (hx 19 _ (by kernel_rfl)) rfl ⟨by omega, by omega⟩
  bd := lp_at Board.len (hx 20 _ (by kernel_rfl)) rfl ⟨by omega, by omega⟩
  tr := lp_at Tar.len (hx 21 _ (by kernel_rfl)) rfl ⟨by omega, by omega⟩
noncomputable def dtOf (A : List (Bool × DT)) : DT := match A with | a :: _ => a.2 | [] => .nil
theorem sub_at {H : Heap} {k n : Nat} {L A M B : List AObj} (hx : ∀ j o, L[j]? = some o → H.get (k + j) = some o) (hl : L = A ++ (M ++ B)) (hn : A.length = n) : ∀ j o, M[j]? = some o → H.get (k + n + j) = some o := fun j o hj => by
  have := hx (n + j) o (by
    rw [hl, List.getElem?_append_right (by omega), show n + j - A.length = j by omega, List.getElem?_append_left (List.getElem?_eq_some_iff.1 hj).1]; exact hj)
  rw [show k + n + j = k + (n + j) by omega]; exact this
/-- what functions that were run once want of a suite -/
structure ExIn (h : Heap) (u : SuiteV) : Prop where
  front : matchT h false (dtOf letterRows0A) [u.w, u.pr, .int .i64 2, .int .i64 4, .int .i64 5, .int .i64 8, .int .i64 3, u.wd, .int .i64 21, .int .i64 2] = true
  coats : matchT h false (dtOf coatFirst0A) [u.dry, u.wk, u.ct] = true
  board : matchT h false (dtOf stripFirst0A) [.int .i64 4, u.sp] = true
  bench : matchT h false (dtOf benchCheck0A) [.int .i64 1, u.bo, u.st] = true
  prices : matchT h false (dtOf priceCheck0A) [u.of, u.bd, u.tr] = true
theorem ExIn.fr {h h' : Heap} {u : SuiteV} (q : ExIn h u) (hk : HOK h) (f : Fr h h') : ExIn h' u :=
  ⟨match_fr hk f _ _ (by kernel_rfl) q.front, match_fr hk f _ _ (by kernel_rfl) q.coats, match_fr hk f _ _ (by kernel_rfl) q.board, match_fr hk f _ _ (by kernel_rfl) q.bench, match_fr hk f _ _ (by kernel_rfl) q.prices⟩
theorem ex_in {H : Heap} {k : Nat} (hx : ExObj H k) : ExIn H (exV k) where
  front := match_at H (dtOf letterRows0A) (k + 0) (by kernel_rfl) (sub_at hx (n := 0) (A := []) (B := (objsT true suiteT k).drop 6) (by kernel_rfl) rfl)
  coats := match_at H (dtOf coatFirst0A) (k + 6) (by kernel_rfl) (sub_at hx (A := (objsT true suiteT k).take 6) (B := (objsT true suiteT k).drop 9) (by kernel_rfl) (by kernel_rfl))
  board := match_at H (dtOf stripFirst0A) (k + 9) (by kernel_rfl) (sub_at hx (A := (objsT true suiteT k).take 9) (B := (objsT true suiteT k).drop 13) (by kernel_rfl) (by kernel_rfl))
  bench := match_at H (dtOf benchCheck0A) (k + 13) (by kernel_rfl) (sub_at hx (A := (objsT true suiteT k).take 13) (B := (objsT true suiteT k).drop 17) (by kernel_rfl) (by kernel_rfl))
  prices := match_at H (dtOf priceCheck0A) (k + 19) (by kernel_rfl) (sub_at hx (A := (objsT true suiteT k).take 19) (B := []) (by kernel_rfl) (by kernel_rfl))

theorem res_front (k : Nat) : resOf letterRows0R k = .tuple ⟨[.int .i64 2, .int .i64 0]⟩ := by kernel_rfl
theorem res_coats (k : Nat) : resOf coatFirst0R k = .tuple ⟨[slA k 3, .int .i64 0]⟩ := by kernel_rfl
theorem res_board (k : Nat) : resOf stripFirst0R k = .tuple ⟨[slA k 4, .int .i64 0]⟩ := by kernel_rfl
theorem res_bench (k : Nat) : resOf benchCheck0R k = .int .i64 0 := by kernel_rfl
theorem res_prices (k : Nat) : resOf priceCheck0R k = .int .i64 0 := by kernel_rfl
theorem stock1 (n : Int) (h : Heap) : callF CC (Lim CC) 194 [.int .i64 n] h = some (.ret (.bool (!inP n 0 40)) h none) := by
  refine CW.eq (CW_in Tryz.f194 (by kernel_rfl) (by kernel_rfl) rfl rfl ?_)
  simp only [Tryz.f194]
  simp (maxDischargeDepth := 30) only [AMS, AMH, ↓reduceIte, Nat.reduceLT, Nat.reduceEqDiff, Nat.reduceAdd, Nat.reduceMul, reduceCtorEq, decide_true, decide_false, Nat.reduceLeDiff, Int.reduceNe, Int.reduceEq, ne_eq, not_false_eq_true, and_self, L_nil, in_d]
  try exact ⟨rfl, trivial⟩
theorem isStock_d {h : Heap} (hk : HOK h) {s : TintS} {v w : Value} {l : List Int} (hv : LS h v s.tins Tin.cells 6) (hw : LS h w l ints 1) (hl : l.length = s.tins.length) (hn : l.length ≤ 1000) (hb : l.any (fun n => !inP n 0 40) = false) :
    CW CC 85 [.agg ⟨s.cells v⟩, w] h fun r h' => r = .bool true ∧ Fr h h' := by
  obtain ⟨q, c, rfl⟩ := hv.len
  obtain ⟨q', c', rfl⟩ := hw.len
  refine CW_in Tryz.f85 (by kernel_rfl) (by kernel_rfl) rfl rfl ?_
  simp only [Tryz.f85]
  have f1 := ex_fr [.row (s.cells (.slice q s.tins.length c)) 0 true] (Fr.refl hk)
  have c12 : (s.cells (.slice q s.tins.length c))[12]? = some (.slice q s.tins.length c) := rfl
  have e : ((l.length : Int) == (s.tins.length : Int)) = true := by simp [hl]
  simp (maxDischargeDepth := 30) only [AMS, AMH, ↓reduceIte, Nat.reduceLT, Nat.reduceEqDiff, Nat.reduceAdd, Nat.reduceMul, reduceCtorEq, decide_true, decide_false, Nat.reduceLeDiff, Int.reduceNe, Int.reduceEq, ne_eq, not_false_eq_true, and_self, XH, fp_43_4, ld_41, len_22, len_41, hk, c12, e]
  refine W_call (contains_ints f1.ok (fun n => !inP n 0 40) (hw.fr hk f1) hn fun h6 f6 x _ => ⟨h6, ?_, Fr.refl f6.ok⟩) ?_
  · first | (rw [V_func]; exact stock1 x h6) | (rw [V_clo]; exact stock1 x h6)
  rintro _ h2 ⟨rfl, f2⟩
  rw [hb]
  simp (maxDischargeDepth := 30) only [AMS, AMH, ↓reduceIte, Nat.reduceLT, Nat.reduceEqDiff, Nat.reduceAdd, Nat.reduceMul, reduceCtorEq, decide_true, decide_false, Nat.reduceLeDiff, Int.reduceNe, Int.reduceEq, ne_eq, not_false_eq_true, and_self, XH, fp_43_4, ld_41, len_22, len_41, f2.ok]
  exact ⟨trivial, f1.trans f2⟩
theorem fits_d {h : Heap} (hk : HOK h) {u : SuiteV} (q : ExIn h u) : CW CC 86 [.agg ⟨[u.w, u.pr, .int .i64 2, .int .i64 4, .int .i64 5, .int .i64 8, .int .i64 3, u.wd, .int .i64 21, .int .i64 2]⟩] h fun r h' => r = .bool true ∧ Fr h h' := by
  refine CW_in Tryz.f86 (by kernel_rfl) (by kernel_rfl) rfl rfl ?_
  simp only [Tryz.f86]
  have f1 := ex_fr [.row [u.w, u.pr, .int .i64 2, .int .i64 4, .int .i64 5, .int .i64 8, .int .i64 3, u.wd, .int .i64 21, .int .i64 2] 0 true] (Fr.refl hk)
  have e := closed_call (R := letterRows0R) (show CC.A 195 = some (closedSpec letterRows0A letterRows0R noSpec) by kernel_rfl) (match_one (q.fr hk f1).front)
  rw [res_front] at e
  simp (maxDischargeDepth := 30) only [AMS, AMH, ↓reduceIte, Nat.reduceLT, Nat.reduceEqDiff, Nat.reduceAdd, Nat.reduceMul, reduceCtorEq, decide_true, decide_false, Nat.reduceLeDiff, Int.reduceNe, Int.reduceEq, ne_eq, not_false_eq_true, and_self, XH, ld_28, hk, e, slA]
  exact ⟨rfl, ex_fr _ (Fr.refl hk)⟩
theorem holds_d {h : Heap} (hk : HOK h) {u : SuiteV} (q : ExIn h u) : CW CC 87 [.agg ⟨[u.dry, u.wk, u.ct]⟩] h fun r h' => r = .bool true ∧ Fr h h' := by
  refine CW_in Tryz.f87 (by kernel_rfl) (by kernel_rfl) rfl rfl ?_
  simp only [Tryz.f87]
  have f1 := ex_fr [.row [u.dry, u.wk, u.ct] 0 true] (Fr.refl hk)
  have e := closed_call (R := coatFirst0R) (show CC.A 10 = some (closedSpec coatFirst0A coatFirst0R noSpec) by kernel_rfl) (match_one (q.fr hk f1).coats)
  rw [res_coats] at e
  simp (maxDischargeDepth := 30) only [AMS, AMH, ↓reduceIte, Nat.reduceLT, Nat.reduceEqDiff, Nat.reduceAdd, Nat.reduceMul, reduceCtorEq, decide_true, decide_false, Nat.reduceLeDiff, Int.reduceNe, Int.reduceEq, ne_eq, not_false_eq_true, and_self, XH, ld_32, hk, e, slA]
  exact ⟨rfl, ex_fr _ (Fr.refl hk)⟩
theorem agrees_d {h : Heap} (hk : HOK h) {u : SuiteV} (q : ExIn h u) : CW CC 88 [.agg ⟨[.int .i64 4, u.sp]⟩] h fun r h' => r = .bool true ∧ Fr h h' := by
  refine CW_in Tryz.f88 (by kernel_rfl) (by kernel_rfl) rfl rfl ?_
  simp only [Tryz.f88]
  have f1 := ex_fr [.row [.int .i64 4, u.sp] 0 true] (Fr.refl hk)
  have e := closed_call (R := stripFirst0R) (show CC.A 11 = some (closedSpec stripFirst0A stripFirst0R noSpec) by kernel_rfl) (match_one (q.fr hk f1).board)
  rw [res_board] at e
  simp (maxDischargeDepth := 30) only [AMS, AMH, ↓reduceIte, Nat.reduceLT, Nat.reduceEqDiff, Nat.reduceAdd, Nat.reduceMul, reduceCtorEq, decide_true, decide_false, Nat.reduceLeDiff, Int.reduceNe, Int.reduceEq, ne_eq, not_false_eq_true, and_self, XH, ld_35, hk, e, slA]
  exact ⟨rfl, ex_fr _ (Fr.refl hk)⟩
set_option maxRecDepth 10000 in
set_option maxHeartbeats 1000000 in
theorem isSuite_d {h : Heap} (hk : HOK h) {P : Nat → Prop} {u : SuiteV} {s : TintS} {l : List Int} (q : IsSuite P h u { exD with tints := s, stock := l }) (hs : LS h u.sk l ints 1) (x : ExIn h u) (G : s.Good) (hl : l.length = s.tins.length) (hb : l.any (fun n => !inP n 0 40) = false) :
    CW CC 32 [.agg ⟨SuiteD.cells { exD with tints := s, stock := l } u⟩] h fun r h' => r = .bool true ∧ Fr h h' := by
  have hn : l.length ≤ 1000 := by rw [hl]; have := of_decide_eq_true G.tins; omega
  obtain ⟨p1, c1, e1⟩ := q.bo.1.len
  obtain ⟨p2, c2, e2⟩ := q.bd.1.len
  refine CW_in Tryz.f32 (by kernel_rfl) (by kernel_rfl) rfl rfl ?_
  simp only [Tryz.f32]
  obtain ⟨R, hR⟩ : ∃ R, R = SuiteD.cells { exD with tints := s, stock := l } u := ⟨_, rfl⟩
  have a1 : take? R 15 3 = some [.int .i64 1, u.bo, u.st] := by rw [hR]; rfl
  have a2 : take? R 18 13 = some (s.cells u.ti) := by rw [hR]; rfl
  have a3 : R[31]? = some u.sk := by rw [hR]; rfl
  have a4 : take? R 32 3 = some [u.of, u.bd, u.tr] := by rw [hR]; rfl
  have a5 : R[33]? = some (.slice p2 2 c2) := by rw [hR]; exact congrArg some e2
  have a6 : R[16]? = some (.slice p1 2 c1) := by rw [hR]; exact congrArg some e1
  have a7 : take? R 0 10 = some [u.w, u.pr, .int .i64 2, .int .i64 4, .int .i64 5, .int .i64 8, .int .i64 3, u.wd, .int .i64 21, .int .i64 2] := by rw [hR]; rfl
  have a8 : take? R 10 3 = some [u.dry, u.wk, u.ct] := by rw [hR]; rfl
  have a9 : take? R 13 2 = some [.int .i64 4, u.sp] := by rw [hR]; rfl
  rw [← hR]
  clear hR
  have f1 := ex_fr [.row R 0 true] (Fr.refl hk)
  have eB := closed_call (R := benchCheck0R) (show CC.A 84 = some (closedSpec benchCheck0A benchCheck0R noSpec) by kernel_rfl) (match_one (x.fr hk f1).bench)
  rw [res_bench] at eB
  have z00 : ((0 : Int) == 0) = true := rfl
  have z22 : (((2 : Nat) : Int) == ((2 : Nat) : Int)) = true := rfl
  have z0 : ∀ k, objsA true benchCheck0R k = [] := fun k => by kernel_rfl
  have z1 : ∀ k, objsA true priceCheck0R k = [] := fun k => by kernel_rfl
  simp (maxDischargeDepth := 30) only [AMS, AMH, ↓reduceIte, Nat.reduceLT, Nat.reduceEqDiff, Nat.reduceAdd, Nat.reduceMul, reduceCtorEq, decide_true, decide_false, Nat.reduceLeDiff, Int.reduceNe, Int.reduceEq, ne_eq, not_false_eq_true, and_self, XH, F32_T86, z00, hk, a1, a2, eB, z0]
  refine W_call (check_t f1.ok (q.ti.1.fr hk f1) G) ?_
  rintro _ h2 ⟨rfl, f2⟩
  have f02 := f1.trans f2
  simp (maxDischargeDepth := 30) only [AMS, AMH, ↓reduceIte, Nat.reduceLT, Nat.reduceEqDiff, Nat.reduceAdd, Nat.reduceMul, reduceCtorEq, decide_true, decide_false, Nat.reduceLeDiff, Int.reduceNe, Int.reduceEq, ne_eq, not_false_eq_true, and_self, XH, F32_T86, z00, f2.ok, f2.S, hk, a2, a3]
  refine W_call (isStock_d f2.ok (q.ti.1.fr hk f02) (hs.fr hk f02) hl hn hb) ?_
  rintro _ h3 ⟨rfl, f3⟩
  have f03 := f02.trans f3
  have eP := closed_call (R := priceCheck0R) (show CC.A 14 = some (closedSpec priceCheck0A priceCheck0R noSpec) by kernel_rfl) (match_one (x.fr hk f03).prices)
  rw [res_prices] at eP
  simp (maxDischargeDepth := 30) only [AMS, AMH, ↓reduceIte, Nat.reduceLT, Nat.reduceEqDiff, Nat.reduceAdd, Nat.reduceMul, reduceCtorEq, decide_true, decide_false, Nat.reduceLeDiff, Int.reduceNe, Int.reduceEq, ne_eq, not_false_eq_true, and_self, XH, F32_T86, z00, f3.ok, f3.S, f2.S, hk, a4, a5, a6, a7, eP, z1, z22]
  refine W_call (fits_d f3.ok (x.fr hk f03)) ?_
  rintro _ h4 ⟨rfl, f4⟩
  have f04 := f03.trans f4
  simp (maxDischargeDepth := 30) only [AMS, AMH, ↓reduceIte, Nat.reduceLT, Nat.reduceEqDiff, Nat.reduceAdd, Nat.reduceMul, reduceCtorEq, decide_true, decide_false, Nat.reduceLeDiff, Int.reduceNe, Int.reduceEq, ne_eq, not_false_eq_true, and_self, XH, F32_T86, z00, f4.ok, f4.S, f3.S, f2.S, hk, a8]
  refine W_call (holds_d f4.ok (x.fr hk f04)) ?_
  rintro _ h5 ⟨rfl, f5⟩
  have f05 := f04.trans f5
  simp (maxDischargeDepth := 30) only [AMS, AMH, ↓reduceIte, Nat.reduceLT, Nat.reduceEqDiff, Nat.reduceAdd, Nat.reduceMul, reduceCtorEq, decide_true, decide_false, Nat.reduceLeDiff, Int.reduceNe, Int.reduceEq, ne_eq, not_false_eq_true, and_self, XH, F32_T86, z00, f5.ok, f5.S, f4.S, f3.S, f2.S, hk, a9]
  refine W_call (agrees_d f5.ok (x.fr hk f05)) ?_
  rintro _ h6 ⟨rfl, f6⟩
  simp (maxDischargeDepth := 30) only [AMS, AMH, ↓reduceIte, Nat.reduceLT, Nat.reduceEqDiff, Nat.reduceAdd, Nat.reduceMul, reduceCtorEq, decide_true, decide_false, Nat.reduceLeDiff, Int.reduceNe, Int.reduceEq, ne_eq, not_false_eq_true, and_self, XH, F32_T86, z00, f6.ok]
  exact ⟨trivial, f05.trans f6⟩
end Go.Am

/- The abstract machine over this program: what stands at a desk, in memory; acts of mixtures. -/
namespace Go.Am
open Go Go.Proofs
/-- numbers in a row that may be written -/
def MR (h : Heap) (v : Value) (l : List Int) : Prop := (l = [] ∧ ∃ c, v = .slice none 0 c) ∨ ∃ b sp c, v = .slice (some ⟨b, 0, sp⟩) l.length c ∧ h.get b = some (.row (l.flatMap ints) 1 true)
theorem MR.keep {h h' : Heap} {v : Value} {l : List Int} (q : MR h v l) (hg : ∀ b, blkOf v = some b → h'.get b = h.get b) : MR h' v l := by
  rcases q with q | ⟨b, sp, c, rfl, h1⟩
  · exact .inl q
  · exact .inr ⟨b, sp, c, rfl, by rw [hg b rfl]; exact h1⟩
theorem MR.ls {h : Heap} {v : Value} {l : List Int} (q : MR h v l) : LS h v l ints 1 := by
  rcases q with ⟨e, c, e'⟩ | ⟨b, sp, c, rfl, h1⟩
  · exact .inl ⟨e, _, _, e'⟩
  · exact LS.of_row ints_len (by unfold rowAt; rw [h1]; rfl)
theorem SL.mr {N : Nat} {h : Heap} {v : Value} {l : List Int} (q : SL N h v (l.flatMap ints) 1 l.length) : MR h v l := by
  rcases q with ⟨rfl, _, e⟩ | ⟨b, rfl, _, _, h1, _⟩
  · exact .inl ⟨List.eq_nil_of_length_eq_zero e, _, rfl⟩
  · exact .inr ⟨b, _, _, rfl, h1⟩
structure StV where
  u : SuiteV
  plan : Value
  left : Nat
  hands : Value
  hours : Value
  paid : Value
  stands : Value
/-- what stands at a desk -/
structure Sta where
  S : SuiteD
  day : Int
  plan : List Int
  laid : Int
  left : List Int
  hands : List Int
  hours : List Int
  tariff : Int
  paid : List Int
  stands : List Int
def Sta.cells (σ : Sta) (v : StV) : List Value := σ.S.cells v.u ++ [.int .i64 σ.day, v.plan, .int .i64 σ.laid, .map (some v.left), v.hands, v.hours, .int .i64 σ.tariff, v.paid, v.stands]
/-- the keys of a set in a map -/
def Keys (es : List MapEntry) (l : List Int) : Prop := es.map (fun e => (e.key, e.val)) = l.map fun n => (.int .i64 n, .bool true)
/-- rows of a state that are never written -/
def StV.Fix (v : StV) (N p : Nat) (b : Nat) : Prop := N ≤ b ∧ b ≠ p ∧ b ≠ v.left ∧ blkOf v.u.sk ≠ some b ∧ blkOf v.hands ≠ some b ∧ blkOf v.hours ≠ some b ∧ blkOf v.paid ≠ some b ∧ blkOf v.stands ≠ some b
def Apart (v w : Value) : Prop := ∀ b, blkOf v = some b → blkOf w ≠ some b
structure IsState (N : Nat) (h : Heap) (p : Nat) (σ : Sta) (v : StV) : Prop where
  row : h.get p = some (.row (σ.cells v) 0 true)
  suite : IsSuite (v.Fix N p) h v.u σ.S
  plan : LP (v.Fix N p) h v.plan σ.plan ints 1
  sk : MR h v.u.sk σ.S.stock
  hands : MR h v.hands σ.hands
  hours : MR h v.hours σ.hours
  paid : MR h v.paid σ.paid
  stands : SL N h v.stands (σ.stands.flatMap ints) 1 σ.stands.length
  left : ∃ es c, h.get v.left = some (.map es c) ∧ Keys es σ.left
  low : N ≤ p ∧ N ≤ v.left ∧ ∀ b, (blkOf v.u.sk = some b ∨ blkOf v.hands = some b ∨ blkOf v.hours = some b ∨ blkOf v.paid = some b) → N ≤ b
  a1 : Apart v.u.sk v.hands
  a2 : Apart v.u.sk v.hours
  a3 : Apart v.u.sk v.paid
  a4 : Apart v.u.sk v.stands
  a5 : Apart v.hands v.hours
  a6 : Apart v.hands v.paid
  a7 : Apart v.hands v.stands
  a8 : Apart v.hours v.paid
  a9 : Apart v.hours v.stands
  a10 : Apart v.paid v.stands
theorem MR.noRow {h : Heap} {v : Value} {l : List Int} {b : Nat} {x : AObj} (q : MR h v l) (hg : h.get b = some x) (hx : ∀ c, x ≠ .row c 1 true) : blkOf v ≠ some b := by
  rcases q with ⟨rfl, c, rfl⟩ | ⟨b', sp, c, rfl, h1⟩
  · simp [blkOf]
  · intro e; simp [blkOf] at e; subst e; rw [h1] at hg; simp at hg; exact hx _ hg.symm
theorem stc_sk (σ : Sta) (v : StV) : (σ.cells v)[31]? = some v.u.sk := rfl
theorem stc_ti (σ : Sta) (v : StV) : take? (σ.cells v) 18 13 = some (σ.S.tints.cells v.u.ti) := rfl
theorem stc_st (σ : Sta) (v : StV) : (σ.cells v)[43]? = some v.stands := rfl
/-- a state that stays where nothing of it changes -/
theorem IsSuite.keep {P : Nat → Prop} {h h' : Heap} {u : SuiteV} {S : SuiteD} (q : IsSuite P h u S) (hg : ∀ b, P b → h'.get b = h.get b) : IsSuite P h' u S :=
  ⟨q.w.keep hg, q.pr.keep hg, by obtain ⟨us, q1, q2⟩ := q.wd; exact ⟨us, q1.keep hg, q2.map fun _ _ hu => hu.keep hg⟩, q.dry.keep hg, q.wk.keep hg, q.ct.keep hg, by obtain ⟨us, q1, q2⟩ := q.sp; exact ⟨us, q1.keep hg, q2.map fun _ _ hu => hu.keep hg⟩, q.bo.keep hg, by obtain ⟨us, q1, q2⟩ := q.st; exact ⟨us, q1.keep hg, q2.map fun _ _ hu => hu.keep hg⟩, q.ti.keep hg, q.of.keep hg, q.bd.keep hg, q.tr.keep hg⟩
theorem IsSuite.mono {P P' : Nat → Prop} {h : Heap} {u : SuiteV} {S : SuiteD} (q : IsSuite P h u S) (hp : ∀ b, P b → P' b) : IsSuite P' h u S :=
  ⟨q.w.mono hp, q.pr.mono hp, by obtain ⟨us, q1, q2⟩ := q.wd; exact ⟨us, q1.mono hp, q2.map fun _ _ hu => hu.mono hp⟩, q.dry.mono hp, q.wk.mono hp, q.ct.mono hp, by obtain ⟨us, q1, q2⟩ := q.sp; exact ⟨us, q1.mono hp, q2.map fun _ _ hu => hu.mono hp⟩, q.bo.mono hp, by obtain ⟨us, q1, q2⟩ := q.st; exact ⟨us, q1.mono hp, q2.map fun _ _ hu => hu.mono hp⟩, q.ti.mono hp, q.of.mono hp, q.bd.mono hp, q.tr.mono hp⟩
theorem IsSuite.fr {P : Nat → Prop} {h h' : Heap} {u : SuiteV} {S : SuiteD} (q : IsSuite P h u S) (hk : HOK h) (f : Fr h h') : IsSuite P h' u S :=
  ⟨q.w.fr hk f, q.pr.fr hk f, q.wd.fr hk f fun _ _ hu => hu.fr hk f, q.dry.fr hk f, q.wk.fr hk f, q.ct.fr hk f, q.sp.fr hk f fun _ _ hu => hu.fr hk f, q.bo.fr hk f, q.st.fr hk f fun _ _ hu => hu.fr hk f, q.ti.fr hk f, q.of.fr hk f, q.bd.fr hk f, q.tr.fr hk f⟩
theorem LP.rk {P : Nat → Prop} {α : Type} {h h' : Heap} {v : Value} {xs : List α} {f : α → List Value} {s : Nat} (q : LP P h v xs f s) (f' : RK h h') : LP P h' v xs f s := ⟨q.1.rk f', q.2⟩
theorem IsWord.rk {P : Nat → Prop} {h h' : Heap} {u : WordV} {w : LWord} (q : IsWord P h u w) (f : RK h h') : IsWord P h' u w := ⟨q.signs.rk f, q.cuts.rk f, q.free⟩
theorem IsStroke.rk {P : Nat → Prop} {h h' : Heap} {u : StrokeV} {w : BStroke} (q : IsStroke P h u w) (f : RK h h') : IsStroke P h' u w := ⟨q.board, q.round, q.lo, q.hi, q.needs.rk f⟩
theorem IsRow.rk {P : Nat → Prop} {h h' : Heap} {u : Value} {w : List Int} (q : IsRow P h u w) (f : RK h h') : IsRow P h' u w := LP.rk q f
theorem LN.rk {P : Nat → Prop} {α β : Type} {R : (Nat → Prop) → Heap → α → β → Prop} {f : α → List Value} {s : Nat} {h h' : Heap} {v : Value} {ws : List β} (q : LN P R f s h v ws) (fr : RK h h') (hR : ∀ u w, R P h u w → R P h' u w) : LN P R f s h' v ws := by
  obtain ⟨us, q1, q2⟩ := q
  exact ⟨us, q1.rk fr, q2.map hR⟩
theorem IsSuite.rk {P : Nat → Prop} {h h' : Heap} {u : SuiteV} {S : SuiteD} (q : IsSuite P h u S) (f : RK h h') : IsSuite P h' u S :=
  ⟨q.w.rk f, q.pr.rk f, q.wd.rk f fun _ _ hu => hu.rk f, q.dry.rk f, q.wk.rk f, q.ct.rk f, q.sp.rk f fun _ _ hu => hu.rk f, q.bo.rk f, q.st.rk f fun _ _ hu => hu.rk f, q.ti.rk f, q.of.rk f, q.bd.rk f, q.tr.rk f⟩
theorem MR.rk {h h' : Heap} {v : Value} {l : List Int} (q : MR h v l) (f : RK h h') : MR h' v l := by
  rcases q with q | ⟨b, sp, c, e, h1⟩
  · exact .inl q
  · exact .inr ⟨b, sp, c, e, f.row _ _ _ _ h1⟩
theorem IsState.rk {N : Nat} {h h' : Heap} {p : Nat} {σ : Sta} {v : StV} (q : IsState N h p σ v) (f : RK h h') (hm : h'.get v.left = h.get v.left) : IsState N h' p σ v :=
  ⟨f.row _ _ _ _ q.row, q.suite.rk f, q.plan.rk f, q.sk.rk f, q.hands.rk f, q.hours.rk f, q.paid.rk f, q.stands.rk f, by obtain ⟨es, c, e, k⟩ := q.left; exact ⟨es, c, by rw [hm]; exact e, k⟩, q.low, q.a1, q.a2, q.a3, q.a4, q.a5, q.a6, q.a7, q.a8, q.a9, q.a10⟩
theorem IsState.fr {N : Nat} {h h' : Heap} {p : Nat} {σ : Sta} {v : StV} (q : IsState N h p σ v) (hk : HOK h) (f : Fr h h') : IsState N h' p σ v :=
  q.rk (f.rk hk) (by obtain ⟨es, c, e, k⟩ := q.left; exact f.get _ (get_lt hk e))
/-- the numbers in stock are other ones -/
theorem IsState.stock {N : Nat} {h : Heap} {p b : Nat} {sp : Option Nat} {c n : Nat} {σ : Sta} {v : StV} (q : IsState N h p σ v) (e : v.u.sk = .slice (some ⟨b, 0, sp⟩) n c) (hg : h.get b = some (.row (σ.S.stock.flatMap ints) 1 true)) {l : List Int} (hl : l.length = σ.S.stock.length) :
    IsState N (h.set b (.row (l.flatMap ints) 1 true)) p { σ with S := { σ.S with stock := l } } v := by
  have eb : blkOf v.u.sk = some b := by rw [e]; rfl
  have np : p ≠ b := by rintro rfl; rw [q.row] at hg; simp at hg
  have nl : v.left ≠ b := by rintro rfl; obtain ⟨es, c, e, _⟩ := q.left; rw [e] at hg; simp at hg
  have nf : ∀ b', v.Fix N p b' → (h.set b (.row (l.flatMap ints) 1 true)).get b' = h.get b' := fun b' hb' => Heap.get_set_ne _ _ (by rintro rfl; exact hb'.2.2.2.1 eb)
  have nn : ∀ w, Apart v.u.sk w → ∀ b', blkOf w = some b' → (h.set b (.row (l.flatMap ints) 1 true)).get b' = h.get b' := fun w ha b' hb' => Heap.get_set_ne _ _ (by rintro rfl; exact ha _ eb hb')
  exact { q with
    row := by rw [Heap.get_set_ne _ _ np]; exact q.row
    suite := ⟨q.suite.w.keep nf, q.suite.pr.keep nf, (q.suite.keep nf).wd, q.suite.dry.keep nf, q.suite.wk.keep nf, q.suite.ct.keep nf, (q.suite.keep nf).sp, q.suite.bo.keep nf, (q.suite.keep nf).st, q.suite.ti.keep nf, q.suite.of.keep nf, q.suite.bd.keep nf, q.suite.tr.keep nf⟩
    plan := q.plan.keep nf
    sk := by
      rcases q.sk with ⟨e1, c', e2⟩ | ⟨b', sp', c', e2, _⟩
      · exact .inl ⟨List.eq_nil_of_length_eq_zero (by rw [hl, e1]; rfl), c', e2⟩
      · have : b' = b := by rw [e2] at eb; simpa [blkOf] using eb
        subst this
        exact .inr ⟨b', sp', c', by rw [e2]; simp [hl], get_set_self' _ _ _⟩
    hands := q.hands.keep (nn _ q.a1)
    hours := q.hours.keep (nn _ q.a2)
    paid := q.paid.keep (nn _ q.a3)
    stands := q.stands.keep (nn _ q.a4)
    left := by obtain ⟨es, c, e, k⟩ := q.left; exact ⟨es, c, by rw [Heap.get_set_ne _ _ nl]; exact e, k⟩ }
end Go.Am
