/- Parts S14, U14, S12, S15, S16, U2 of the abstract machine over this program, joined: what each part says stands at its head. -/
import Derived.Test.YtlflfbnnjlkkcaaGreatJS7
import Derived.Test.YtlflfbnnjlkkcaaGreatJU13
import Derived.Test.YtlflfbnnjlkkcaaGreatJT85
set_option linter.unusedSimpArgs false
set_option linter.unusedVariables false
set_option linter.defProp false
namespace Go.Am
open Go Go.Proofs
def E8 : List Ent := [.give 0 0, .done 0, .give 1 1, .done 1, .give 2 0, .done 2, .give 3 1, .done 3]
def bestL : List Int := [0, 1, 0, 1]
theorem went8 (S : SuiteD) : ∀ n, n ≤ 8 → Went S (E8.take n) := by
  intro n
  induction n with
  | zero => intro _; exact .nil
  | succ n ih =>
    intro hn
    obtain ⟨x, hx⟩ : ∃ x, E8[n]? = some x := ⟨_, List.getElem?_eq_getElem (show n < 8 by omega)⟩
    rw [take_snoc hx]
    refine .snoc (ih (by omega)) ?_
    rcases (by omega : n = 0 ∨ n = 1 ∨ n = 2 ∨ n = 3 ∨ n = 4 ∨ n = 5 ∨ n = 6 ∨ n = 7) with rfl | rfl | rfl | rfl | rfl | rfl | rfl | rfl <;>
    · simp [E8] at hx
      subst hx
      simp [E8, runE, Ent.app, Ent.Fit, sta0, upto, List.range, List.range.loop]
theorem ent_S (S : SuiteD) (l : List Ent) : (runE S l).S = S := by
  unfold runE
  have : ∀ (l : List Ent) (σ : Sta), (l.foldl (fun σ x => x.app σ) σ).S = σ.S := by
    intro l
    induction l with
    | nil => intro _; rfl
    | cons x l ih => intro σ; rw [List.foldl_cons, ih]; cases x <;> rfl
  exact this l _
theorem CX.sure {f : FuncId} {args : List Value} {h h1 : Heap} (c : CX CC f args h (fun _ h' => Fr h1 h') fun _ _ => False) : CX CC f args h (fun _ h' => True ∧ Fr h1 h') fun e h' => ¬ True ∧ refused e ∧ Fr h1 h' := by
  rcases c with ⟨v, h', e, q⟩ | ⟨_, _, _, hf⟩
  · exact .inl ⟨v, h', e, trivial, q⟩
  · exact hf.elim
theorem CX.of_call {f : FuncId} {args : List Value} {h : Heap} {v : Value} (hk : HOK h) (e : callF CC (Lim CC) f args h = some (.ret v h none)) : CX CC f args h (fun _ h' => True ∧ Fr h h') fun e h' => ¬ True ∧ refused e ∧ Fr h h' := .inl ⟨v, h, e, trivial, Fr.refl hk⟩
def Goes (S : SuiteD) (l : List Ent) (x : Ent) (P0 : Prop) : Prop := ∀ M h1 p sv, HOK h1 → 0 < h1.next → 0 < M → IsState M h1 p (entT S l l.length) sv → CX CC x.gf [x.arg, .pointer (some ⟨p, 0, none⟩)] h1 (fun _ h' => P0 ∧ Fr h1 h') fun e h' => ¬ P0 ∧ refused e ∧ Fr h1 h'
theorem entT_S (S : SuiteD) (l : List Ent) (i : Nat) : (entT S l i).S = S := ent_S S _
theorem give_goes {S : SuiteD} (eb : S.bench = exD.bench) {i : Nat} (hi : i < 4) {b : Int} (hb : bestL[i]? = some b) : Goes S (E8.take (2 * i)) (.give i b) True := by
  intro M h1 p sv hk h0 hM q
  obtain ⟨w, hw⟩ : ∃ w, exD.bench.strokes[i]? = some w := ⟨_, List.getElem?_eq_getElem hi⟩
  refine CX.sure (goes_7 hk q (a := -1) (w := w) ?_ (by omega) ?_ (by rw [entT_S, eb]; exact hw) ?_)
  · rcases (by omega : i = 0 ∨ i = 1 ∨ i = 2 ∨ i = 3) with rfl | rfl | rfl | rfl <;> rfl
  · rw [entT_S, eb]
    rcases (by omega : i = 0 ∨ i = 1 ∨ i = 2 ∨ i = 3) with rfl | rfl | rfl | rfl <;> simp [bestL] at hb <;> subst hb <;> decide
  · rcases (by omega : i = 0 ∨ i = 1 ∨ i = 2 ∨ i = 3) with rfl | rfl | rfl | rfl <;> simp [bestL, exD] at hb hw <;> subst hb <;> subst hw <;> simp
theorem done_goes {S : SuiteD} (eb : S.bench = exD.bench) {i : Nat} (hi : i < 4) : Goes S (E8.take (2 * i + 1)) (.done i) True := by
  intro M h1 p sv hk h0 hM q
  obtain ⟨w, hw⟩ : ∃ w, exD.bench.strokes[i]? = some w := ⟨_, List.getElem?_eq_getElem hi⟩
  refine CX.sure (goes_8 hk hM q (i := i) (a := bestL.getD i 0) (w := w) ?_ ?_ ?_ (by rw [entT_S, eb]; exact hw) ?_ ?_ (by omega) ?_) <;>
    rcases (by omega : i = 0 ∨ i = 1 ∨ i = 2 ∨ i = 3) with rfl | rfl | rfl | rfl
  all_goals first | rfl | (simp [exD] at hw; subst hw; simp [E8, entT, runE, Ent.app, sta0, upto, List.range, List.range.loop, bestL]; done) | (intro k hk; simp [E8, entT, runE, Ent.app, sta0, upto, List.range, List.range.loop]; omega)
end Go.Am

namespace Go.Am
open Go Go.Proofs
theorem getD_at {r : List Int} {i : Nat} {x : Int} (h : r[i]? = some x) : r.getD i 0 = x := by rw [List.getD_eq_getElem?_getD, h]; rfl
theorem argmax_succ (r : List Int) (k : Nat) : argmax r (k + 1) = if r.getD k 0 > r.getD (argmax r k) 0 then k else argmax r k := by
  unfold argmax; rw [List.range_succ, List.foldl_append, List.foldl_cons, List.foldl_nil]
theorem argmax_lt (r : List Int) : ∀ k : Nat, 1 ≤ k → argmax r k < k
  | 0, h => absurd h (by omega)
  | k + 1, _ => by
    rw [argmax_succ]
    split
    · omega
    · cases k with
      | zero => exact Nat.zero_lt_one
      | succ k => have := argmax_lt r (k + 1) (by omega); omega
theorem ends_ok {s : Sheet} (ok : s.ok = true) (high : Bool) : hoursOK s.boards (endsL high s.boards) = true := by
  refine hoursOK_all (by simp [endsL]) fun i x b hx hb => ?_
  simp only [endsL, List.getElem?_map, hb, Option.map_some, Option.some.injEq] at hx
  subst hx
  have := of_decide_eq_true (Sheet.ok_boards ok b (List.mem_of_getElem? hb))
  simp only [okHour, inP, endOf, decide_eq_true_eq]
  cases high <;> simp <;> omega
theorem sum_bump {l : List Int} {i : Nat} (h : i < l.length) : sumI (bump l i) = sumI l + 1 := by
  obtain ⟨x, hx⟩ : ∃ x, l[i]? = some x := ⟨_, List.getElem?_eq_getElem h⟩
  have set : ∀ (l : List Int) (i : Nat) (a x : Int), l[i]? = some a → sumI (l.set i x) = sumI l - a + x := by
    intro l
    induction l with
    | nil => intro i a x h; simp at h
    | cons y l ih =>
      intro i a x h
      cases i with
      | zero => simp at h; subst h; rw [List.set_cons_zero, sumI_cons, sumI_cons]; omega
      | succ i => rw [List.set_cons_succ, sumI_cons, sumI_cons, ih i a x (by simpa using h)]; omega
  unfold bump
  rw [getD_at hx, set l i x _ hx]; omega
theorem takeRef_sum : ∀ (c : Nat) (out r : List Int), out.length = r.length → 1 ≤ r.length → sumI (takeRef c out r) = sumI out + c
  | 0, _, _, _, _ => by simp [takeRef]
  | c + 1, out, r, hl, h1 => by
    unfold takeRef
    rw [takeRef_sum c _ _ (by rw [bump_len, List.length_set]; exact hl) (by rw [List.length_set]; exact h1), sum_bump (by rw [hl]; exact argmax_lt r _ h1)]
    omega
theorem shares_sum {P : Int} {W : List Int} (hP : 0 ≤ P) (hW : ∀ w ∈ W, 0 ≤ w) (hA : 1 ≤ sumI W) : sumI (sharesL P W) = P := by
  have lb := left_bP hP hW hA
  have hl : 1 ≤ W.length := by
    cases W with
    | nil => simp [sumI] at hA
    | cons _ _ => simp
  unfold sharesL
  rw [takeRef_sum _ _ _ (by simp [baseL, restL]) (by simp [restL]; omega)]
  unfold leftN
  omega
end Go.Am

namespace Go.Am
open Go Go.Proofs
theorem owes_zero {X : List Int} {n : Nat} (h : X.length = n) : owesL X (List.replicate n 0) = X := by
  subst h
  unfold owesL
  induction X with
  | nil => rfl
  | cons x X ih => rw [List.length_cons, List.replicate_succ, List.zip_cons_cons, List.map_cons, ih]; simp
theorem sum_nn : ∀ {l : List Int}, (∀ x ∈ l, 0 ≤ x) → 0 ≤ sumI l
  | [], _ => by simp [sumI]
  | a :: l, h => by
    rw [sumI_cons]
    have := h a List.mem_cons_self
    have := sum_nn fun x hx => h x (List.mem_cons_of_mem _ hx)
    omega
theorem sum_le {l : List Int} (h : ∀ x ∈ l, 0 ≤ x) : ∀ x ∈ l, x ≤ sumI l := by
  induction l with
  | nil => intro x hx; simp at hx
  | cons a l ih =>
    have ha := h a List.mem_cons_self
    have ih := ih fun x hx => h x (List.mem_cons_of_mem _ hx)
    intro x hx
    rw [sumI_cons]
    have h0 := sum_nn fun x hx => h x (List.mem_cons_of_mem _ hx)
    rcases List.mem_cons.1 hx with rfl | hx
    · omega
    · have := ih x hx; omega
structure OwesOK (O : List Int) (P : Int) (n : Nat) : Prop where
  len : O.length = n
  sum : sumI O = P
  all : ∀ x ∈ O, 0 ≤ x ∧ x ≤ 100000
theorem owes_ok {s : Sheet} {t : Tar} {l : List Int} (ok : s.ok = true) (two : s.boards.length = 2) (ht : t.ok = true) (hl : hoursOK s.boards l = true) (hz : s.offs = List.replicate s.offs.length 0) :
    OwesOK (owesL (sharesL (paid t s.boards l) (weights s.offs.length t s.boards l)) s.offs) (paid t s.boards l) s.offs.length := by
  have hq := qtys_b ok hl t
  have hll := (hoursOK_at hl).1
  have hlen := Sheet.ok_len ok
  have hw := weights_b ok hq hll
  have hp := paid_le ht hll hq
  have wl : (weights s.offs.length t s.boards l).length = s.offs.length := weights_len _ _ _ _
  have sl : (sharesL (paid t s.boards l) (weights s.offs.length t s.boards l)).length = s.offs.length := by rw [sharesL_len, wl]
  rw [show owesL (sharesL (paid t s.boards l) (weights s.offs.length t s.boards l)) s.offs = sharesL (paid t s.boards l) (weights s.offs.length t s.boards l) by
    rw [hz]; simp only [List.length_replicate]; exact owes_zero sl]
  have sm := shares_sum hp.1 (fun w h => (hw.1 w h).1) hw.2
  have sb := sharesL_b ⟨hp.1, by omega⟩ hw.1 hw.2 (by omega)
  refine ⟨sl, sm, fun x hx => ⟨(sb x hx).1, ?_⟩⟩
  have := sum_le (fun y hy => (sb y hy).1) x hx
  omega
end Go.Am

namespace Go.Am
open Go Go.Proofs
def sta8 (S : SuiteD) : Sta := { sta0 S with hands := [0, 1, 0, 1], left := [] }
theorem run8 (S : SuiteD) : runE S E8 = sta8 S := by simp [E8, runE, Ent.app, sta0, sta8, upto, List.range, List.range.loop]
theorem entT_f (S : SuiteD) (l : List Ent) : (entT S l l.length).S = (runE S l).S ∧ (entT S l l.length).hands = (runE S l).hands ∧ (entT S l l.length).hours = (runE S l).hours ∧ (entT S l l.length).left = (runE S l).left ∧ (entT S l l.length).tariff = (runE S l).tariff ∧ (entT S l l.length).paid = (runE S l).paid := by
  simp [entT]
def hrs (a b : Int) : List Ent := [.hours 0 a, .hours 1 b]
def hoursAt (a b : Int) : Nat → List Int
  | 0 => [-1, -1]
  | 1 => [a, -1]
  | _ => [a, b]
theorem run_h (S : SuiteD) (a b : Int) (i : Nat) (hi : i ≤ 2) : runE S (E8 ++ (hrs a b).take i) = { sta8 S with hours := hoursAt a b i } := by
  have e : ∀ l, runE S (E8 ++ l) = l.foldl (fun σ x => x.app σ) (sta8 S) := fun l => by
    rw [← run8]; unfold runE; rw [List.foldl_append]
  rw [e]
  rcases (by omega : i = 0 ∨ i = 1 ∨ i = 2) with rfl | rfl | rfl <;> rfl
theorem went_h (S : SuiteD) (a b : Int) : ∀ i, i ≤ 2 → Went S (E8 ++ (hrs a b).take i)
  | 0, _ => by
    have := went8 S 8 (Nat.le_refl _)
    rw [show E8.take 8 = E8 from rfl] at this
    rw [List.take_zero, List.append_nil]; exact this
  | i + 1, h => by
    obtain ⟨x, hx⟩ : ∃ x, (hrs a b)[i]? = some x := ⟨_, List.getElem?_eq_getElem (show i < 2 by omega)⟩
    rw [take_snoc hx, ← List.append_assoc]
    refine .snoc (went_h S a b i (by omega)) ?_
    rw [run_h S a b i (by omega)]
    rcases (by omega : i = 0 ∨ i = 1) with rfl | rfl <;> (simp [hrs] at hx; subst hx; show _ < _; simp [hoursAt])
theorem hours_goes {S : SuiteD} {x y : Board} (eb : S.prices.boards = [x, y]) (h1 : x.lo ≤ x.hi) (h2 : y.lo ≤ y.hi) {i : Nat} (hi : i < 2) {w : Board} (hw : S.prices.boards[i]? = some w) : Goes S (E8 ++ (hrs x.hi y.hi).take i) (.hours i w.hi) True := by
  intro M h1' p sv hk h0 hM q
  obtain ⟨eS, _, eh, el, _, _⟩ := entT_f S (E8 ++ (hrs x.hi y.hi).take i)
  rw [run_h S _ _ i (by omega)] at eS eh el
  refine CX.of_call hk (goes_9 q (i := i) (a := -1) (w := w) ?_ (by omega) ?_ ?_ (by rw [el]; rfl))
  · rw [eh]
    rcases (by omega : i = 0 ∨ i = 1) with rfl | rfl <;> rfl
  · rw [eS]; exact hw
  · rw [eb] at hw
    rcases (by omega : i = 0 ∨ i = 1) with rfl | rfl <;> (simp at hw; subst hw; omega)
theorem deal_goes {S : SuiteD} {a b : Int} {t : Nat} (ht : t < S.prices.tars.length) : Goes S (E8 ++ hrs a b) (.deal t) True := by
  intro M h1' p sv hk h0 hM q
  obtain ⟨eS, _, _, _, et, _⟩ := entT_f S (E8 ++ hrs a b)
  have e := run_h S a b 2 (Nat.le_refl _)
  rw [show (hrs a b).take 2 = hrs a b from rfl] at e
  rw [e] at eS et
  refine CX.sure (goes_10 hk q (t := t) ?_ ?_)
  · rw [eS]; show (t : Int) < _; simp only [sta8, sta0]; omega
  · rw [et]; show (-1 : Int) < 0; decide
structure Paying (S : SuiteD) (k : Nat) (a b : Int) (l : List Ent) (n : Nat) (p : List Int) : Prop where
  went : Went S l
  len : l.length ≤ 11 + n
  run : runE S l = { sta8 S with hours := [a, b], tariff := k, paid := p }
  plen : p.length = S.prices.offs.length
  zero : ∀ i, n ≤ i → i < p.length → p[i]? = some 0
theorem paying0 (S : SuiteD) (k : Nat) (a b : Int) : Paying S k a b (E8 ++ hrs a b ++ [.deal k]) 0 (List.replicate S.prices.offs.length 0) := by
  have e := run_h S a b 2 (Nat.le_refl _)
  have w := went_h S a b 2 (Nat.le_refl _)
  rw [show (hrs a b).take 2 = hrs a b from rfl] at e w
  refine ⟨.snoc w trivial, by simp [E8, hrs], by rw [runE_snoc, e]; rfl, by simp, fun i _ hi => ?_⟩
  rw [List.getElem?_replicate, if_pos (by simpa using hi)]
theorem Paying.skip {S : SuiteD} {k : Nat} {a b : Int} {l : List Ent} {n : Nat} {p : List Int} (q : Paying S k a b l n p) : Paying S k a b l (n + 1) p :=
  ⟨q.went, by have := q.len; omega, q.run, q.plen, fun i h1 h2 => q.zero i (by omega) h2⟩
theorem Paying.paid {S : SuiteD} {k : Nat} {a b : Int} {l : List Ent} {n : Nat} {p : List Int} (q : Paying S k a b l n p) (hn : n < S.prices.offs.length) {x : Int} (hx : 0 ≤ x ∧ x ≤ 100000) : Paying S k a b (l ++ [.pay n x]) (n + 1) (p.set n x) := by
  have hnp : n < p.length := by rw [q.plen]; exact hn
  have z := q.zero n (Nat.le_refl _) hnp
  have zd : p.getD n 0 = 0 := getD_at z
  refine ⟨.snoc q.went ?_, by have := q.len; simp; omega, ?_, by simp [q.plen], fun i h1 h2 => ?_⟩
  · rw [q.run]
    refine ⟨hnp, ?_, ?_⟩
    · show _ ≤ p.getD n 0 + x; rw [zd]; omega
    · show p.getD n 0 + x ≤ _; rw [zd]; omega
  · rw [runE_snoc, q.run]
    show ({ sta8 S with hours := [a, b], tariff := (k : Int), paid := p.set n (p.getD n 0 + x) } : Sta) = _
    rw [zd, Int.zero_add]
  · rw [List.getElem?_set_ne (by omega)]
    exact q.zero i (by omega) (by simpa using h2)
def owesO (s : Sheet) (t : Tar) : List Int := owesL (sharesL (paid t s.boards (endsL true s.boards)) (weights s.offs.length t s.boards (endsL true s.boards))) s.offs
theorem Paying.agreed {S : SuiteD} {k : Nat} {x y : Board} {l : List Ent} {n : Nat} {p : List Int} (q : Paying S k x.hi y.hi l n p) (eb : S.prices.boards = [x, y]) {t : Tar} (ht : S.prices.tars[k]? = some t) (ok : S.prices.ok = true) : Agreed (entT S l l.length) k t ∧ owesS (entT S l l.length) t = owesO S.prices t ∧ (entT S l l.length).paid = p ∧ (entT S l l.length).left = [] ∧ (entT S l l.length).hands = [0, 1, 0, 1] ∧ (entT S l l.length).S = S := by
  obtain ⟨eS, ehd, eh, el, et, ep⟩ := entT_f S l
  rw [q.run] at eS ehd eh el et ep
  have ee : endsL true S.prices.boards = [x.hi, y.hi] := by rw [eb]; rfl
  have bx := of_decide_eq_true (Sheet.ok_boards ok x (by rw [eb]; simp))
  have by' := of_decide_eq_true (Sheet.ok_boards ok y (by rw [eb]; simp))
  have eS : (entT S l l.length).S = S := eS
  have eh : (entT S l l.length).hours = [x.hi, y.hi] := eh
  refine ⟨⟨et, by rw [eS]; exact ht, by rw [eS, eh, ← ee]; exact ends_ok ok true, ?_, by rw [eh]; simp, by rw [eS]; exact ok, by rw [eS, eb]; rfl⟩, by unfold owesS owesO; rw [eS, eh, ee], ep, el, ehd, eS⟩
  rw [eh]
  intro z hz
  simp at hz
  rcases hz with rfl | rfl <;> omega
theorem pay_goes {S : SuiteD} {k : Nat} {x y : Board} {l : List Ent} {n : Nat} {p : List Int} (q : Paying S k x.hi y.hi l n p) (eb : S.prices.boards = [x, y]) {t : Tar} (ht : S.prices.tars[k]? = some t) (ok : S.prices.ok = true) {i : Nat} {a b w : Int} (hi : p[i]? = some a) (hx : (owesO S.prices t)[i]? = some w) (h1 : 1 ≤ b) (hb : -1000000 ≤ a + b ∧ a + b ≤ 1000000) : Goes S l (.pay i b) (a + b ≤ w) := by
  intro M h1' p' sv hk h0 hM st
  obtain ⟨A, eo, ep, _⟩ := q.agreed eb ht ok
  exact goes_11 hk h0 st A (by rw [ep]; exact hi) (by rw [eo]; exact hx) h1 hb
theorem IsDesk.kp {N : Nat} {h h' : Heap} {d : Nat} {S : SuiteD} {E : List Entry} {w : DeskV} (D : IsDesk N h d S E w) (hk : HOK h) (g : Gr (fun b => b = d ∨ blkOf w.ev = some b) h h') {b : Nat} {x y : Int} {cs : List Value} {s : Nat} (hg : h.get b = some (.row (.int .i64 x :: .int .i64 y :: cs) s true)) (hl : cs.length ≠ 35) : h'.get b = some (.row (.int .i64 x :: .int .i64 y :: cs) s true) :=
  g.get' hk (fun e => e.elim (D.ne hg (by simp only [List.length_cons]; omega)) (D.other hg)) hg
theorem IsDesk.ks {N M n : Nat} {h h' : Heap} {d : Nat} {S : SuiteD} {E : List Entry} {w : DeskV} (D : IsDesk N h d S E w) (hk : HOK h) (g : Gr (fun b => b = d ∨ blkOf w.ev = some b) h h') {v : Value} {l : List Value} (q : SL M h v l 1 n) : SL M h' v l 1 n :=
  q.keep fun b hb => g.get b (q.blk_lt hk hb).2 fun e => by
    rcases q with ⟨rfl, _⟩ | ⟨b', rfl, _, _, h3, _⟩
    · simp [blkOf] at hb
    · simp [blkOf] at hb
      subst hb
      rcases e with rfl | e
      · rw [D.row] at h3; simp at h3
      · exact D.ent.other h3 (by simp) e
theorem IsDesk.fH {H h h' : Heap} {d : Nat} {S : SuiteD} {E : List Entry} {w : DeskV} (D : IsDesk H.next h d S E w) (hk : HOK h) (f : Fr H h) (g : Gr (fun b => b = d ∨ blkOf w.ev = some b) h h') : Fr H h' :=
  g.fr f fun i e => by
    rcases e with rfl | e
    · exact D.low
    · exact (D.ent.blk_lt hk e).1
theorem formed_2 {k a b : Int} (hk : k = 7 ∨ k = 9 ∨ k = 11) (ha : 0 ≤ a ∧ a ≤ 9999) (hb : 0 ≤ b ∧ b ≤ 9999) : formed k [a, b] = true := by
  have e : ∀ n : Int, 0 ≤ n ∧ n ≤ 9999 → numK n = true := fun n hn => decide_eq_true hn
  rcases hk with rfl | rfl | rfl <;> (unfold formed; simp only [List.all_cons, List.all_nil, e a ha, e b hb]; rfl)
theorem formed_1 {k a : Int} (hk : k = 8 ∨ k = 10) (ha : 0 ≤ a ∧ a ≤ 9999) : formed k [a] = true := by
  have e : ∀ n : Int, 0 ≤ n ∧ n ≤ 9999 → numK n = true := fun n hn => decide_eq_true hn
  rcases hk with rfl | rfl <;> (unfold formed; simp only [List.all_cons, List.all_nil, e a ha]; rfl)
end Go.Am

namespace Go.Am
open Go Go.Proofs
theorem LP.lt {P : Nat → Prop} {α : Type} {h : Heap} {v : Value} {xs : List α} {f : α → List Value} {s : Nat} (q : LP P h v xs f s) (hk : HOK h) : LP (fun b => P b ∧ b < h.next) h v xs f s := by
  refine ⟨q.1, fun e b hb => ⟨q.2 e b hb, ?_⟩⟩
  rcases q.1 with ⟨e0, _⟩ | ⟨b', o, sp, c, row, rfl, hr, _⟩
  · exact absurd e0 e
  · simp [blkOf] at hb; subst hb; exact row_lt hk hr
theorem IsWord.lt {P : Nat → Prop} {h : Heap} {u : WordV} {w : LWord} (q : IsWord P h u w) (hk : HOK h) : IsWord (fun b => P b ∧ b < h.next) h u w := ⟨q.signs.lt hk, q.cuts.lt hk, q.free⟩
theorem IsStroke.lt {P : Nat → Prop} {h : Heap} {u : StrokeV} {w : BStroke} (q : IsStroke P h u w) (hk : HOK h) : IsStroke (fun b => P b ∧ b < h.next) h u w := ⟨q.board, q.round, q.lo, q.hi, q.needs.lt hk, q.nil⟩
theorem IsSuite.lt {P : Nat → Prop} {h : Heap} {u : SuiteV} {S : SuiteD} (q : IsSuite P h u S) (hk : HOK h) : IsSuite (fun b => P b ∧ b < h.next) h u S :=
  ⟨q.w.lt hk, q.pr.lt hk, by obtain ⟨us, q1, q2⟩ := q.wd; exact ⟨us, q1.lt hk, q2.map fun _ _ hu => hu.lt hk⟩, q.dry.lt hk, q.wk.lt hk, q.ct.lt hk, by obtain ⟨us, q1, q2⟩ := q.sp; exact ⟨us, q1.lt hk, q2.map fun _ _ hu => LP.lt hu hk⟩, q.bo.lt hk, by obtain ⟨us, q1, q2⟩ := q.st; exact ⟨us, q1.lt hk, q2.map fun _ _ hu => hu.lt hk⟩, q.ti.lt hk, q.of.lt hk, q.bd.lt hk, q.tr.lt hk⟩
def DeskV.Off (w : DeskV) (X : Nat → Prop) (N d n b : Nat) : Prop := (w.Fix N d b ∧ b < n) ∧ ¬ X b
structure DeskX (X : Nat → Prop) (N : Nat) (h : Heap) (d : Nat) (S : SuiteD) (E : List Entry) (w : DeskV) : Prop where
  desk : IsDesk N h d S E w
  su : IsSuite (w.Off X N d h.next) h w.u S
  sk : LP (w.Off X N d h.next) h w.u.sk S.stock ints 1
  nums : LR (IsEntry (w.Off X N d h.next)) h w.evs E
  lt : ∀ b, X b → b < h.next
theorem DeskX.none {N : Nat} {h : Heap} {d : Nat} {S : SuiteD} {E : List Entry} {w : DeskV} (D : IsDesk N h d S E w) (hk : HOK h) : DeskX (fun _ => False) N h d S E w :=
  ⟨D, (D.suite.lt hk).mono fun b e => ⟨e, id⟩, (D.sk.lt hk).mono fun b e => ⟨e, id⟩, D.nums.map fun _ _ e => ⟨e.1, (e.2.lt hk).mono fun b e => ⟨e, id⟩⟩, fun _ e => e.elim⟩
theorem DeskX.fr {X : Nat → Prop} {N : Nat} {h h' : Heap} {d : Nat} {S : SuiteD} {E : List Entry} {w : DeskV} (D : DeskX X N h d S E w) (hk : HOK h) (f : Fr h h') : DeskX X N h' d S E w := by
  have m : ∀ b, w.Off X N d h.next b → w.Off X N d h'.next b := fun b e => ⟨⟨e.1.1, Nat.lt_of_lt_of_le e.1.2 f.next⟩, e.2⟩
  exact ⟨D.desk.fr hk f, (D.su.fr hk f).mono m, (D.sk.fr hk f).mono m, D.nums.map fun _ _ e => ⟨e.1, (e.2.fr hk f).mono m⟩, fun b e => Nat.lt_of_lt_of_le (D.lt b e) f.next⟩
theorem DeskX.next {X : Nat → Prop} {N : Nat} {h h' : Heap} {d : Nat} {S : SuiteD} {E : List Entry} {w w' : DeskV} {x : Entry} (D : DeskX X N h d S E w) (D' : IsDesk N h' d S (E ++ [x]) w') (hw : w.Next h w') (g : Gr (fun b => b = d ∨ blkOf w.ev = some b) h h') : DeskX X N h' d S (E ++ [x]) w' := by
  obtain ⟨nv, u, rfl, hnv, hu⟩ := hw
  have k : ∀ b, w.Off X N d h.next b → h'.get b = h.get b := fun b e => g.get b e.1.2 fun o => o.elim e.1.1.2.1 e.1.1.2.2
  have m : ∀ b, w.Off X N d h.next b → (w.put nv u).Off X N d h'.next b := fun b e => ⟨⟨⟨e.1.1.1, e.1.1.2.1, fun o => by have := hnv b o; have := e.1.2; omega⟩, Nat.lt_of_lt_of_le e.1.2 g.next⟩, e.2⟩
  refine ⟨D', (D.su.keep k).mono m, (D.sk.keep k).mono m, ⟨D'.nums.1, fun i u' e h1 h2 => ?_⟩, fun b e => Nat.lt_of_lt_of_le (D.lt b e) g.next⟩
  have hl := D.nums.1
  have h1' : (w.evs ++ [u])[i]? = some u' := h1
  by_cases hi : i < E.length
  · rw [List.getElem?_append_left (by omega)] at h1' h2
    have := D.nums.2 i u' e h1' h2
    exact ⟨this.1, (this.2.keep k).mono m⟩
  · have := D'.nums.2 i u' e h1 h2
    rw [List.getElem?_append_right (by omega)] at h1'
    have e0 : i - w.evs.length = 0 := by
      have := (List.getElem?_eq_some_iff.1 h1').1; simp at this; omega
    rw [e0] at h1'; simp at h1'; subst h1'
    exact ⟨this.1, this.2.1, fun e b hb => ⟨(this.2.lt g.ok).2 e b hb, fun hx => by have := hu b hb; have := D.lt b hx; omega⟩⟩
theorem DeskX.app {v v' : Value} {N : Nat} {h h' : Heap} {d : Nat} {S : SuiteD} {E : List Entry} {w : DeskV} (D : DeskX (fun b => blkOf v = some b) N h d S E w) (hk : HOK h) (hk' : HOK h') (hn : h.next ≤ h'.next) (g : ∀ i, i < h.next → blkOf v ≠ some i → h'.get i = h.get i) {M n : Nat} {l : List Value} (q : SL M h v l 1 n) (hv : ∀ b, blkOf v' = some b → h.next ≤ b ∧ b < h'.next) : DeskX (fun b => blkOf v' = some b) N h' d S E w := by
  have k : ∀ b, w.Off (fun b => blkOf v = some b) N d h.next b → h'.get b = h.get b := fun b e => g b e.1.2 e.2
  have m : ∀ b, w.Off (fun b => blkOf v = some b) N d h.next b → w.Off (fun b => blkOf v' = some b) N d h'.next b := fun b e => ⟨⟨e.1.1, Nat.lt_of_lt_of_le e.1.2 hn⟩, fun o => by have := (hv b o).1; have := e.1.2; omega⟩
  have m2 : ∀ b, w.Off (fun b => blkOf v' = some b) N d h'.next b → w.Fix N d b := fun b e => e.1.1
  have hd : blkOf v ≠ some d := q.other D.desk.row (by simp)
  have he : ∀ b, blkOf w.ev = some b → blkOf v ≠ some b := fun b hb e => by
    rcases q with ⟨rfl, _⟩ | ⟨b', rfl, _, _, h3, _⟩
    · simp [blkOf] at e
    · simp [blkOf] at e; subst e; exact D.desk.ent.other h3 (by simp) hb
  have su := (D.su.keep k).mono m
  have sk := (D.sk.keep k).mono m
  have nu : LR (IsEntry (w.Off (fun b => blkOf v' = some b) N d h'.next)) h' w.evs E := D.nums.map fun _ _ e => ⟨e.1, (e.2.keep k).mono m⟩
  exact ⟨⟨by rw [g d (get_lt hk D.desk.row) hd]; exact D.desk.row, D.desk.low, su.mono m2, sk.mono m2, D.desk.ent.keep fun b hb => g b (D.desk.ent.blk_lt hk hb).2 (he b hb), nu.map fun _ _ e => ⟨e.1, e.2.mono m2⟩⟩, su, sk, nu, fun b e => (hv b e).2⟩
end Go.Am

namespace Go.Am
open Go Go.Proofs
def F22_U2 := A2 @fp_25_0 <| A2 @fp_25_1 <| A2 @fp_47_0 <| A2 @fp_47_1 <| A2 @fp_47_2 <| A2 @fp_89_0 <| A2 @fp_89_1 <| A2 @fp_89_2 <| A2 @fp_89_3 <| A2 @ix_22 <| A2 @ix_44 <| A2 @ix_45 <| A2 @ld_166 <| A2 @ld_22 <| A2 @ld_3 <| A2 @ld_44 <| A2 @ld_45 <| A2 @ld_89 <| A2 @len_22 <| A2 @len_44 <| A2 @len_45 <| A2 @part_166 <| A2 @part_3 <| A2 @part_89 <| A2 @size_166 <| A2 @size_22 <| A2 @size_3 <| A2 @size_44 <| A2 @size_45 <| A2 @size_89 <| A2 @und_22 <| A2 @und_44 <| A2 @und_45 <| A2 @zero_22 <| A2 @zero_44 <| A2 @zero_45 @zero_89
theorem Board.ok_ref (L F lo hi ow : Int) (n : Nat) (m : Int) (hm : m = if lo + 6 < 40 then lo + 6 else 40) : (inP L 0 60 && (inP F 0 40 && (inP lo 0 40 && (inP hi lo m && inP ow 0 (n - 1))))) = Board.ok n ⟨L, F, lo, hi, ow⟩ := by
  subst hm
  simp only [Board.ok, inP]
  rw [Bool.eq_iff_iff]
  simp
  split <;> omega
set_option maxRecDepth 10000 in
set_option maxHeartbeats 1000000 in
theorem sheet_32 {h : Heap} (hk : HOK h) {a b c : Value} {s : Sheet} (hs : IsSheet h a b c s) :
    CW CC 22 [.agg ⟨[a, b, c]⟩] h fun r h' => r = .bool s.ok ∧ Fr h h' := by
  obtain ⟨p1, c1, rfl, x1⟩ := hs.offs.open
  obtain ⟨p2, c2, rfl, x2⟩ := hs.boards.open
  obtain ⟨p3, c3, rfl, x3⟩ := hs.tars.open
  refine CW_in Tryz.f22 (by kernel_rfl) (by kernel_rfl) rfl rfl ?_
  simp only [Tryz.f22]
  cases i1 : inP s.offs.length 1 3 with
  | false =>
    simp (maxDischargeDepth := 30) only [AA, ↓reduceIte, Nat.reduceLT, Nat.reduceEqDiff, Nat.reduceAdd, Nat.reduceMul, reduceCtorEq, Nat.reduceLeDiff, Int.reduceNe, Int.reduceEq, F22_U2, hk, in_76, i1]
    exact ⟨by simp [Sheet.ok, i1], (Fr.refl hk).alloc _⟩
  | true =>
  cases i2 : inP s.boards.length 1 4 with
  | false =>
    simp (maxDischargeDepth := 30) only [AA, ↓reduceIte, Nat.reduceLT, Nat.reduceEqDiff, Nat.reduceAdd, Nat.reduceMul, reduceCtorEq, Nat.reduceLeDiff, Int.reduceNe, Int.reduceEq, F22_U2, hk, in_76, i1, i2]
    exact ⟨by simp [Sheet.ok, i1, i2], (Fr.refl hk).alloc _⟩
  | true =>
  cases i3 : inP s.tars.length 1 3 with
  | false =>
    simp (maxDischargeDepth := 30) only [AA, ↓reduceIte, Nat.reduceLT, Nat.reduceEqDiff, Nat.reduceAdd, Nat.reduceMul, reduceCtorEq, Nat.reduceLeDiff, Int.reduceNe, Int.reduceEq, F22_U2, hk, in_76, i1, i2, i3]
    exact ⟨by simp [Sheet.ok, i1, i2, i3], (Fr.refl hk).alloc _⟩
  | true =>
  have j1 := of_decide_eq_true i1
  have j2 := of_decide_eq_true i2
  have j3 := of_decide_eq_true i3
  simp (maxDischargeDepth := 30) only [AA, ↓reduceIte, Nat.reduceLT, Nat.reduceEqDiff, Nat.reduceAdd, Nat.reduceMul, reduceCtorEq, Nat.reduceLeDiff, Int.reduceNe, Int.reduceEq, F22_U2, hk, in_76, i1, i2, i3]
  have f1 : Fr h (h.alloc (.row [.slice p1 s.offs.length c1, .slice p2 s.boards.length c2, .slice p3 s.tars.length c3] 0 true)) := (Fr.refl hk).alloc _
  have r1 : rowAt (h.alloc (.row [.slice p1 s.offs.length c1, .slice p2 s.boards.length c2, .slice p3 s.tars.length c3] 0 true)) h.next = some [.slice p1 s.offs.length c1, .slice p2 s.boards.length c2, .slice p3 s.tars.length c3] := rowAt_new _ _ _ _
  have m1 : h.next < (h.alloc (.row [.slice p1 s.offs.length c1, .slice p2 s.boards.length c2, .slice p3 s.tars.length c3] 0 true)).next := by simp
  generalize h.alloc (.row [.slice p1 s.offs.length c1, .slice p2 s.boards.length c2, .slice p3 s.tars.length c3] 0 true) = h1 at f1 r1 m1 ⊢
  refine W_loop s.offs.length (fun m f h' => ∃ i, i ≤ s.offs.length ∧ m = s.offs.length - i ∧ f 1 = .pointer (some ⟨h.next, 0, none⟩) ∧ f 3 = .int .i64 i ∧ (∀ (j : Nat) x, j < i → s.offs[j]? = some x → inP x 0 100 = true) ∧ h' = h1)
    ⟨0, by omega, by omega, by simp [upd_at], by simp [upd_at], fun j x hj => by omega, rfl⟩ ?_
  rintro m f h' ⟨i, hi, rfl, g1, g3, hall, rfl⟩ ih
  by_cases hil : i < s.offs.length
  · obtain ⟨x, gx⟩ : ∃ x, s.offs[i]? = some x := ⟨_, List.getElem?_eq_getElem hil⟩
    rcases x1 with hx | ⟨b1, o1, sp1, row1, rfl, rr, x1⟩
    · rw [hx] at hil; simp at hil
    have k1 : row1[o1 + i]? = some (.int .i64 x) := by simpa [ints] using (x1 _ _ gx).2 0 (by omega)
    have rr' := f1.row' hk rr
    cases hin : inP x 0 100 with
    | false =>
      simp (maxDischargeDepth := 30) only [AA, ↓reduceIte, Nat.reduceLT, Nat.reduceEqDiff, Nat.reduceAdd, Nat.reduceMul, reduceCtorEq, Nat.reduceLeDiff, Int.reduceNe, Int.reduceEq, F22_U2, f1.ok, r1, g1, g3, lt_t hil, hil, rr', Nat.mul_one, k1, in_76, hin]
      exact ⟨by rw [Sheet.ok, any_hit (p := fun x => inP x 0 100) gx hin]; simp, f1⟩
    | true =>
      simp (maxDischargeDepth := 30) only [AA, ↓reduceIte, Nat.reduceLT, Nat.reduceEqDiff, Nat.reduceAdd, Nat.reduceMul, reduceCtorEq, Nat.reduceLeDiff, Int.reduceNe, Int.reduceEq, F22_U2, f1.ok, r1, g1, g3, lt_t hil, hil, rr', Nat.mul_one, k1, in_76, hin, i_next hil (by omega)]
      refine ih (s.offs.length - (i + 1)) _ _ (by omega) ?_
      exact ⟨i + 1, by omega, rfl, by simp [upd_at, g1], by simp [upd_at], all_step gx hall hin, rfl⟩
  have hil : i = s.offs.length := by omega
  subst hil
  have a1 := all_end hall
  simp (maxDischargeDepth := 30) only [AA, ↓reduceIte, Nat.reduceLT, Nat.reduceEqDiff, Nat.reduceAdd, Nat.reduceMul, reduceCtorEq, Nat.reduceLeDiff, Int.reduceNe, Int.reduceEq, F22_U2, f1.ok, r1, g1, g3, lt_f]
  refine W_loop s.boards.length (fun m f h' => ∃ i, i ≤ s.boards.length ∧ m = s.boards.length - i ∧ f 1 = .pointer (some ⟨h.next, 0, none⟩) ∧ f 4 = .int .i64 i ∧ (∀ (j : Nat) x, j < i → s.boards[j]? = some x → x.ok s.offs.length = true) ∧ Fr h h' ∧ rowAt h' h.next = some [.slice p1 s.offs.length c1, .slice p2 s.boards.length c2, .slice p3 s.tars.length c3] ∧ h.next < h'.next)
    ⟨0, by omega, by omega, by simp [upd_at, g1], by simp [upd_at], fun j x hj => by omega, f1, r1, m1⟩ ?_
  clear g1 g3 ih hall
  rintro m f h' ⟨i, hi, rfl, g1, g4, hall, f2, r2, m2⟩ ih
  have k2 := f2.ok
  by_cases hil : i < s.boards.length
  · obtain ⟨x, gx⟩ : ∃ x, s.boards[i]? = some x := ⟨_, List.getElem?_eq_getElem hil⟩
    rcases x2 with hx | ⟨b2, o2, sp2, row2, rfl, rr, x2⟩
    · rw [hx] at hil; simp at hil
    obtain ⟨L, F, lo, hi', ow⟩ := x
    have e1 : take? row2 (o2 + i * 5) 5 = some [.int .i64 L, .int .i64 F, .int .i64 lo, .int .i64 hi', .int .i64 ow] := (x2 _ _ gx).1
    have rr' := f2.row' hk rr
    have w2 : IntKind.i64.wrap ((s.offs.length : Int) - 1) = s.offs.length - 1 := wrap64 (by omega) (by omega)
    have fin : ∀ x, Fr h ((h'.alloc x).set h'.next (.row [.int .i64 L, .int .i64 F, .int .i64 lo, .int .i64 hi', .int .i64 ow] 0 true)) := fun x => (f2.alloc x).set (by omega) (by simp) _
    have bad : ∀ r, r = false → Board.ok s.offs.length ⟨L, F, lo, hi', ow⟩ = r → s.ok = false := by
      rintro _ rfl hb
      rw [Sheet.ok, any_hit (p := fun b : Board => b.ok s.offs.length) gx hb]; simp
    have go := fun m hm => Board.ok_ref L F lo hi' ow s.offs.length m hm
    cases q1 : inP L 0 60 with
    | false =>
      simp (maxDischargeDepth := 30) only [AA, ↓reduceIte, Nat.reduceLT, Nat.reduceEqDiff, Nat.reduceAdd, Nat.reduceMul, reduceCtorEq, Nat.reduceLeDiff, Int.reduceNe, Int.reduceEq, F22_U2, k2, r2, m2, g1, g4, lt_t hil, hil, rr', e1, in_76, q1]
      exact ⟨by rw [bad _ rfl (by rw [← go _ rfl, q1]; rfl)], fin _⟩
    | true =>
    cases q2 : inP F 0 40 with
    | false =>
      simp (maxDischargeDepth := 30) only [AA, ↓reduceIte, Nat.reduceLT, Nat.reduceEqDiff, Nat.reduceAdd, Nat.reduceMul, reduceCtorEq, Nat.reduceLeDiff, Int.reduceNe, Int.reduceEq, F22_U2, k2, r2, m2, g1, g4, lt_t hil, hil, rr', e1, in_76, q1, q2]
      exact ⟨by rw [bad _ rfl (by rw [← go _ rfl, q1, q2]; rfl)], fin _⟩
    | true =>
    cases q3 : inP lo 0 40 with
    | false =>
      simp (maxDischargeDepth := 30) only [AA, ↓reduceIte, Nat.reduceLT, Nat.reduceEqDiff, Nat.reduceAdd, Nat.reduceMul, reduceCtorEq, Nat.reduceLeDiff, Int.reduceNe, Int.reduceEq, F22_U2, k2, r2, m2, g1, g4, lt_t hil, hil, rr', e1, in_76, q1, q2, q3]
      exact ⟨by rw [bad _ rfl (by rw [← go _ rfl, q1, q2, q3]; rfl)], fin _⟩
    | true =>
    have z3 := of_decide_eq_true q3
    have w1 : IntKind.i64.wrap (lo + 6) = lo + 6 := wrap64 (by omega) (by omega)
    cases q4 : inP hi' lo (if lo + 6 < 40 then lo + 6 else 40) with
    | false =>
      simp (maxDischargeDepth := 30) only [AA, ↓reduceIte, Nat.reduceLT, Nat.reduceEqDiff, Nat.reduceAdd, Nat.reduceMul, reduceCtorEq, Nat.reduceLeDiff, Int.reduceNe, Int.reduceEq, F22_U2, k2, r2, m2, g1, g4, lt_t hil, hil, rr', e1, in_76, q1, q2, q3, w1, min_two, q4]
      exact ⟨by rw [bad _ rfl (by rw [← go _ rfl, q1, q2, q3, q4]; rfl)], fin _⟩
    | true =>
    cases q5 : inP ow 0 (s.offs.length - 1) with
    | false =>
      simp (maxDischargeDepth := 30) only [AA, ↓reduceIte, Nat.reduceLT, Nat.reduceEqDiff, Nat.reduceAdd, Nat.reduceMul, reduceCtorEq, Nat.reduceLeDiff, Int.reduceNe, Int.reduceEq, F22_U2, k2, r2, m2, g1, g4, lt_t hil, hil, rr', e1, in_76, q1, q2, q3, w1, min_two, q4, w2, q5]
      exact ⟨by rw [bad _ rfl (by rw [← go _ rfl, q1, q2, q3, q4, q5]; rfl)], fin _⟩
    | true =>
      simp (maxDischargeDepth := 30) only [AA, ↓reduceIte, Nat.reduceLT, Nat.reduceEqDiff, Nat.reduceAdd, Nat.reduceMul, reduceCtorEq, Nat.reduceLeDiff, Int.reduceNe, Int.reduceEq, F22_U2, k2, r2, m2, g1, g4, lt_t hil, hil, rr', e1, in_76, q1, q2, q3, w1, min_two, q4, w2, q5, i_next hil (by omega)]
      refine ih (s.boards.length - (i + 1)) _ _ (by omega) ?_
      exact ⟨i + 1, by omega, rfl, by simp [upd_at, g1], by simp [upd_at], all_step gx hall (by rw [← go _ rfl, q1, q2, q3, q4, q5]; rfl), fin _, by rw [rowAt_set_lt _ m2, rowAt_old _ m2]; exact r2, by simp; omega⟩
  have hil : i = s.boards.length := by omega
  subst hil
  have a2 := all_end hall
  simp (maxDischargeDepth := 30) only [AA, ↓reduceIte, Nat.reduceLT, Nat.reduceEqDiff, Nat.reduceAdd, Nat.reduceMul, reduceCtorEq, Nat.reduceLeDiff, Int.reduceNe, Int.reduceEq, F22_U2, k2, r2, g1, g4, lt_f]
  refine W_loop s.tars.length (fun m f h' => ∃ i, i ≤ s.tars.length ∧ m = s.tars.length - i ∧ f 1 = .pointer (some ⟨h.next, 0, none⟩) ∧ f 6 = .int .i64 i ∧ (∀ (j : Nat) x, j < i → s.tars[j]? = some x → x.ok = true) ∧ Fr h h' ∧ rowAt h' h.next = some [.slice p1 s.offs.length c1, .slice p2 s.boards.length c2, .slice p3 s.tars.length c3])
    ⟨0, by omega, by omega, by simp [upd_at, g1], by simp [upd_at], fun j x hj => by omega, f2, r2⟩ ?_
  clear g1 g4 ih hall
  rintro m f h3 ⟨i, hi, rfl, g1, g6, hall, f3, r3⟩ ih
  have k3 := f3.ok
  by_cases hil : i < s.tars.length
  · obtain ⟨x, gx⟩ : ∃ x, s.tars[i]? = some x := ⟨_, List.getElem?_eq_getElem hil⟩
    rcases x3 with hx | ⟨b3, o3, sp3, row3, rfl, rr, x3⟩
    · rw [hx] at hil; simp at hil
    have e1 : take? row3 (o3 + i * 5) 5 = some x.cells := (x3 _ _ gx).1
    have rr' := f3.row' hk rr
    obtain ⟨_, h4, e4, rfl, fr4⟩ := fine_77 x h3 k3
    cases hx : x.ok with
    | false =>
      rw [hx] at e4
      simp (maxDischargeDepth := 30) only [AA, ↓reduceIte, Nat.reduceLT, Nat.reduceEqDiff, Nat.reduceAdd, Nat.reduceMul, reduceCtorEq, Nat.reduceLeDiff, Int.reduceNe, Int.reduceEq, F22_U2, k3, r3, g1, g6, lt_t hil, hil, rr', e1, e4]
      exact ⟨by rw [Sheet.ok, any_hit (p := fun t : Tar => t.ok) gx hx]; simp, f3.trans fr4⟩
    | true =>
      rw [hx] at e4
      simp (maxDischargeDepth := 30) only [AA, ↓reduceIte, Nat.reduceLT, Nat.reduceEqDiff, Nat.reduceAdd, Nat.reduceMul, reduceCtorEq, Nat.reduceLeDiff, Int.reduceNe, Int.reduceEq, F22_U2, k3, r3, g1, g6, lt_t hil, hil, rr', e1, e4, i_next hil (by omega)]
      refine ih (s.tars.length - (i + 1)) _ _ (by omega) ?_
      exact ⟨i + 1, by omega, rfl, by simp [upd_at, g1], by simp [upd_at], all_step gx hall hx, f3.trans fr4, fr4.row' k3 r3⟩
  have hil : i = s.tars.length := by omega
  subst hil
  have a3 := all_end hall
  simp (maxDischargeDepth := 30) only [AA, ↓reduceIte, Nat.reduceLT, Nat.reduceEqDiff, Nat.reduceAdd, Nat.reduceMul, reduceCtorEq, Nat.reduceLeDiff, Int.reduceNe, Int.reduceEq, F22_U2, k3, r3, g1, g6, lt_f]
  exact ⟨by rw [Sheet.ok, i1, i2, i3, a1, a2, a3]; rfl, f3⟩
end Go.Am
