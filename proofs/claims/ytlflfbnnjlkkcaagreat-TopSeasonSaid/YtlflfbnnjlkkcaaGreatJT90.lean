/- Parts T90, T91, T92 of the abstract machine over this program, joined: what each part says stands at its head. -/
import Derived.Test.YtlflfbnnjlkkcaaGreatJT86
set_option linter.unusedSimpArgs false
set_option linter.unusedVariables false
set_option linter.defProp false
namespace Go.Am
open Go Go.Proofs
theorem coats_match {P : Nat → Prop} {h : Heap} {u : SuiteV} {S : SuiteD} (q : IsSuite P h u S) (e : S.coats = exD.coats) : matchT h false (dtOf coatFirst0A) [u.dry, u.wk, u.ct] = true := by
  have h1 := q.dry.1
  have h2 := q.wk.1
  have h3 := q.ct.1
  rw [e] at h1 h2 h3
  refine (Bool.and_eq_true _ _).mpr ⟨slIs_of h1 (by simp [exD]) (by omega) rfl (by kernel_rfl), (Bool.and_eq_true _ _).mpr ⟨slIs_of h2 (by simp [exD]) (by omega) rfl (by kernel_rfl), (Bool.and_eq_true _ _).mpr ⟨slIs_of h3 (by simp [exD]) (by omega) rfl (by kernel_rfl), rfl⟩⟩⟩
theorem mk_z {n : Nat} (hn : n ≤ 4) : aMakeSlice CC 22 (.int .i64 n) (.int .i64 n) = some (.new (.row ((List.replicate n (0 : Int)).flatMap ints) 1 true) (sliceTo 1 n n)) := by
  rcases (by omega : n = 0 ∨ n = 1 ∨ n = 2 ∨ n = 3 ∨ n = 4) with rfl | rfl | rfl | rfl | rfl <;> kernel_rfl
section
variable (σ : Sta) (v : StV) (x : Value)
theorem sq_36 : (σ.cells v).set 36 x = σ.cells { v with plan := x } := rfl
theorem sq_39 : (σ.cells v).set 39 x = σ.cells { v with hands := x } := rfl
theorem sq_40 : (σ.cells v).set 40 x = σ.cells { v with hours := x } := rfl
theorem sq_42 : (σ.cells v).set 42 x = σ.cells { v with paid := x } := rfl
theorem sq_43 : (σ.cells v).set 43 x = σ.cells { v with stands := x } := rfl
theorem sl_16 : (σ.cells v)[16]? = some v.u.bo := rfl
theorem sl_17 : (σ.cells v)[17]? = some v.u.st := rfl
theorem sl_32 : (σ.cells v)[32]? = some v.u.of := rfl
theorem sl_38 : (σ.cells v)[38]? = some (.map (some v.left)) := rfl
theorem sl_co : take? (σ.cells v) 10 3 = some [v.u.dry, v.u.wk, v.u.ct] := rfl
theorem sl_len : (σ.cells v).length = 44 := rfl
end
def SQ := A2 @sq_36 <| A2 @sq_39 <| A2 @sq_40 <| A2 @sq_42 <| A2 @sq_43 <| A2 @sl_16 <| A2 @sl_17 <| A2 @sl_32 <| A2 @sl_38 <| A2 @sl_co @sl_len
def sta0 (S : SuiteD) : Sta := ⟨S, 0, [0, 2, 4], 0, upto 4, [-1, -1, -1, -1], [-1, -1], -1, List.replicate S.prices.offs.length 0, []⟩
def stv0 (u : SuiteV) (m : Nat) : StV := ⟨u, .slice none 0 0, m, .slice none 0 0, .slice none 0 0, .slice none 0 0, .slice none 0 0⟩
theorem build_state (S : SuiteD) (u : SuiteV) (m : Nat) : aBuild CC 257 [(0, .agg ⟨S.cells u⟩), (4, .map (some m)), (7, .int .i64 (-1))] = some (.agg ⟨(sta0 S).cells (stv0 u m)⟩) := by kernel_rfl
theorem rep4 {h : Heap} {b c : Nat} {sp : Option Nat} (hr : rowAt h b = some [.int .i64 (-1)]) :
    callF CC (Lim CC) 156 [.slice (some ⟨b, 0, sp⟩) 1 c, .int .i64 ((4 : Nat) : Int)] h = some (.ret (.slice (some ⟨h.next, 0, none⟩) 4 4) (h.ex [.row [.int .i64 (-1), .int .i64 (-1), .int .i64 (-1), .int .i64 (-1)] 1 true]) none) := by
  refine spec_call (show CC.A 156 = some repeatSpec by kernel_rfl) ?_
  have hm : matchA h false repeat4A [.slice (some ⟨b, 0, sp⟩) 1 c, .int .i64 ((4 : Nat) : Int)] = true := by
    have hs : slIs h false 1 1 (matchT h false (plI [-1] .nil)) (.slice (some ⟨b, 0, sp⟩) 1 c) = true := slIs_of (xs := [(-1 : Int)]) (f := ints) (LS.of_row ints_len hr) (by simp) (by omega) rfl (by kernel_rfl)
    show ((true && (slIs h false 1 1 (matchT h false (plI [-1] .nil)) (.slice (some ⟨b, 0, sp⟩) 1 c) && true)) && matchA h false [(false, plI [4] .nil)] [.int .i64 ((4 : Nat) : Int)]) = true
    rw [hs]; kernel_rfl
  simp only [repeatSpec, closedSpec, hm, allocs_ex]
  rfl
theorem rep2 {h : Heap} {b c : Nat} {sp : Option Nat} (hr : rowAt h b = some [.int .i64 (-1)]) :
    callF CC (Lim CC) 156 [.slice (some ⟨b, 0, sp⟩) 1 c, .int .i64 ((2 : Nat) : Int)] h = some (.ret (.slice (some ⟨h.next, 0, none⟩) 2 2) (h.ex [.row [.int .i64 (-1), .int .i64 (-1)] 1 true]) none) := by
  refine spec_call (show CC.A 156 = some repeatSpec by kernel_rfl) ?_
  have hm : matchA h false repeat2A [.slice (some ⟨b, 0, sp⟩) 1 c, .int .i64 ((2 : Nat) : Int)] = true := by
    have hs : slIs h false 1 1 (matchT h false (plI [-1] .nil)) (.slice (some ⟨b, 0, sp⟩) 1 c) = true := slIs_of (xs := [(-1 : Int)]) (f := ints) (LS.of_row ints_len hr) (by simp) (by omega) rfl (by kernel_rfl)
    show ((true && (slIs h false 1 1 (matchT h false (plI [-1] .nil)) (.slice (some ⟨b, 0, sp⟩) 1 c) && true)) && matchA h false [(false, plI [2] .nil)] [.int .i64 ((2 : Nat) : Int)]) = true
    rw [hs]; kernel_rfl
  have hm' : matchA h false repeat4A [.slice (some ⟨b, 0, sp⟩) 1 c, .int .i64 ((2 : Nat) : Int)] = false := by
    show (_ && matchA h false [(false, plI [4] .nil)] [.int .i64 ((2 : Nat) : Int)]) = false
    rw [show matchA h false [(false, plI [4] .nil)] [.int .i64 ((2 : Nat) : Int)] = false by kernel_rfl, Bool.and_false]
  simp only [repeatSpec, closedSpec, hm', hm, allocs_ex]
  rfl
theorem first_c {h : Heap} {a b c : Value} (hm : matchT h false (dtOf coatFirst0A) [a, b, c] = true) :
    callF CC (Lim CC) 10 [.agg ⟨[a, b, c]⟩] h = some (.ret (.tuple ⟨[.slice (some ⟨h.next, 0, none⟩) 3 3, .int .i64 0]⟩) (h.ex [.row [.int .i64 0, .int .i64 2, .int .i64 4] 1 true]) none) := by
  have := closed_call (R := coatFirst0R) (show CC.A 10 = some (closedSpec coatFirst0A coatFirst0R noSpec) by kernel_rfl) (match_one hm)
  rw [this]; rfl
theorem int_eq (x y : Int) : keyEq (.int .i64 x) (.int .i64 y) = some (decide (x = y)) := by
  show (if IntKind.i64 = IntKind.i64 then some (x == y) else none) = _
  rw [if_pos rfl]
  by_cases h : x = y <;> simp [h]
theorem standing_d (d : Nat) {h : Heap} (hk : HOK h) : callF CC (Lim CC) 157 [.pointer (some ⟨d, 0, none⟩)] h = some (.ret (.func (.func 238) ⟨[]⟩ ⟨[.pointer (some ⟨h.next, 0, none⟩)]⟩) (h.ex [.row [.pointer (some ⟨d, 0, none⟩)] 0 true]) none) := by
  refine CW.eq (CW_in Tryz.f157 (by kernel_rfl) (by kernel_rfl) rfl rfl ?_)
  simp only [Tryz.f157]
  simp (maxDischargeDepth := 30) only [AA, ↓reduceIte, Nat.reduceLT, Nat.reduceEqDiff, Nat.reduceAdd, Nat.reduceMul, reduceCtorEq, Nat.reduceLeDiff, Int.reduceNe, Int.reduceEq, XH, L_nil, hk]
def stvA (u : SuiteV) (m n : Nat) : StV := ⟨u, .slice (some ⟨m + 3, 0, none⟩) 3 3, m, .slice (some ⟨m + 5, 0, none⟩) 4 4, .slice (some ⟨m + 7, 0, none⟩) 2 2, .slice (some ⟨m + 8, 0, some 1⟩) n n, .slice none 0 0⟩
def objsA2 (S : SuiteD) (u : SuiteV) (m n : Nat) : List AObj := [.row ((sta0 S).cells (stvA u m n)) 0 true, .row [.pointer (some ⟨m + 1, 0, none⟩)] 0 true, .row [.int .i64 0, .int .i64 2, .int .i64 4] 1 true, .row [.int .i64 (-1)] 1 true, .row [.int .i64 (-1), .int .i64 (-1), .int .i64 (-1), .int .i64 (-1)] 1 true, .row [.int .i64 (-1)] 1 true, .row [.int .i64 (-1), .int .i64 (-1)] 1 true, .row ((List.replicate n (0 : Int)).flatMap ints) 1 true]
theorem start_state {h h1 : Heap} (f1 : Fr h h1) {S : SuiteD} {u : SuiteV} (iu : IsSuite (fun b => h.next ≤ b ∧ b < h1.next ∧ blkOf u.sk ≠ some b) h1 u S) (sk : SL h.next h1 u.sk (S.stock.flatMap ints) 1 S.stock.length) {es : List MapEntry} {cl : Nat} (hes : Keys es (upto 4)) :
    IsState h.next (h1.ex (.map es cl :: objsA2 S u h1.next S.prices.offs.length)) (h1.next + 1) (sta0 S) (stvA u h1.next S.prices.offs.length) := by
  have fx := ex_fr (.map es cl :: objsA2 S u h1.next S.prices.offs.length) (Fr.refl f1.ok)
  have n1 := f1.next
  have g : ∀ {j : Nat} {o : AObj}, (AObj.map es cl :: objsA2 S u h1.next S.prices.offs.length)[j]? = some o → (h1.ex (.map es cl :: objsA2 S u h1.next S.prices.offs.length)).get (h1.next + j) = some o := fun {j o} e => by
    rw [ex_at rfl (List.getElem?_eq_some_iff.1 e).1]; exact e
  have bs : ∀ b, blkOf u.sk = some b → b < h1.next := fun b hb => (sk.blk_lt f1.ok hb).2
  have fix : ∀ b, h.next ≤ b → (b < h1.next ∧ blkOf u.sk ≠ some b ∨ b = h1.next + 3) → (stvA u h1.next S.prices.offs.length).Fix h.next (h1.next + 1) b := by
    intro b hb h2
    refine ⟨hb, by omega, ?_, ?_, ?_, ?_, ?_, ?_⟩
    · show b ≠ h1.next; omega
    · intro e; rcases h2 with ⟨_, h3⟩ | rfl
      · exact h3 e
      · have := bs _ e; omega
    · simp [stvA, blkOf]; omega
    · simp [stvA, blkOf]; omega
    · simp [stvA, blkOf]; omega
    · simp [stvA, blkOf]
  exact {
    row := g (j := 1) rfl
    suite := (iu.fr f1.ok fx).mono fun b hb => fix b hb.1 (.inl hb.2)
    plan := ⟨LS.of_row (xs := [(0 : Int), 2, 4]) ints_len (by unfold rowAt; rw [g (j := 3) rfl]; rfl), fun _ b hb => by simp [stvA, blkOf] at hb; subst hb; exact fix _ (by omega) (.inr rfl)⟩
    sk := (sk.fr f1.ok fx).mr
    hands := .inr ⟨_, _, _, rfl, g (j := 5) rfl⟩
    hours := .inr ⟨_, _, _, rfl, g (j := 7) rfl⟩
    paid := .inr ⟨_, some 1, S.prices.offs.length, by simp [stvA, sta0], g (j := 8) rfl⟩
    stands := SL.nil _ _ _
    left := ⟨es, cl, g (j := 0) rfl, hes⟩
    low := ⟨by omega, by show h.next ≤ h1.next; omega, fun b hb => by
      rcases hb with hb | hb | hb | hb
      · exact (sk.blk_lt f1.ok hb).1
      · simp [stvA, blkOf] at hb; omega
      · simp [stvA, blkOf] at hb; omega
      · simp [stvA, blkOf] at hb; omega⟩
    a1 := fun b hb e => by have := bs b hb; simp [stvA, blkOf] at e; omega
    a2 := fun b hb e => by have := bs b hb; simp [stvA, blkOf] at e; omega
    a3 := fun b hb e => by have := bs b hb; simp [stvA, blkOf] at e; omega
    a4 := fun b hb e => by simp [stvA, blkOf] at e
    a5 := fun b hb e => by simp [stvA, blkOf] at e hb; omega
    a6 := fun b hb e => by simp [stvA, blkOf] at e hb; omega
    a7 := fun b hb e => by simp [stvA, blkOf] at e
    a8 := fun b hb e => by simp [stvA, blkOf] at e hb; omega
    a9 := fun b hb e => by simp [stvA, blkOf] at e
    a10 := fun b hb e => by simp [stvA, blkOf] at e
    hc := fun p n c e => by simp [stvA] at e; omega }
end Go.Am

namespace Go.Am
open Go Go.Proofs
theorem stand_step {M : Nat} {h : Heap} {p : Nat} {σ : Sta} {v : StV} (hk : HOK h) (hp : 0 < h.next) (q : IsState M h p σ v) (n : Int) (hn : σ.stands.length ≤ 1000) (hM : M ≤ h.next) :
    ∃ h4, aAppend CC [22, 22] v.stands (.slice (some ⟨h.next, 0, some 1⟩) 1 1) (h.ex [.row [.int .i64 n] 1 true]) = some (.slice (some ⟨h.next + 1, 0, some 1⟩) (σ.stands.length + 1) (σ.stands.length + 1), h4) ∧ HOK h4 ∧ h4.get p = some (.row (σ.cells v) 0 true) ∧
      IsState M (h4.set p (.row (σ.cells { v with stands := .slice (some ⟨h.next + 1, 0, some 1⟩) (σ.stands.length + 1) (σ.stands.length + 1) }) 0 true)) p { σ with stands := σ.stands ++ [n] } { v with stands := .slice (some ⟨h.next + 1, 0, some 1⟩) (σ.stands.length + 1) (σ.stands.length + 1) } ∧
      Gr (fun b => b = p ∨ blkOf v.stands = some b) h (h4.set p (.row (σ.cells { v with stands := .slice (some ⟨h.next + 1, 0, some 1⟩) (σ.stands.length + 1) (σ.stands.length + 1) }) 0 true)) := by
  obtain ⟨h4, e4, q4, k4, n4, g4⟩ := append_raw (ts := []) app_22 hk hM hp q.stands (v := .int .i64 n) rfl (by omega)
  rw [ex_one] at e4
  have pl := get_lt hk q.row
  have ps : blkOf v.stands ≠ some p := q.stands.other q.row (by simp)
  have ml : v.left < h.next ∧ blkOf v.stands ≠ some v.left ∧ v.left ≠ p := by
    obtain ⟨es, c, e, _⟩ := q.left
    exact ⟨get_lt hk e, q.stands.other e (by simp), by intro e'; rw [e', q.row] at e; simp at e⟩
  have g4p : h4.get p = some (.row (σ.cells v) 0 true) := by rw [g4 p pl ps]; exact q.row
  generalize hv : Value.slice (some ⟨h.next + 1, 0, some 1⟩) (σ.stands.length + 1) (σ.stands.length + 1) = nv at e4 q4 ⊢
  have gs : ∀ (x : AObj) b, b < h.next → b ≠ p → blkOf v.stands ≠ some b → (h4.set p x).get b = h.get b := fun x b hb hne hs => by rw [Heap.get_set_ne _ _ hne]; exact g4 b hb hs
  have kx : ∀ x, HOK (h4.set p x) := fun x => k4.set (by omega) x
  have bn : blkOf nv = some (h.next + 1) := by rw [← hv]; rfl
  refine ⟨h4, e4, k4, g4p, ?_, kx _, by simp; omega, fun i hi hx => gs _ i hi (fun e => hx (.inl e)) fun e => hx (.inr e)⟩
  have fixlt : ∀ {α : Type} {w : Value} {xs : List α} {f : α → List Value} {s : Nat}, LP (v.Fix M p) h w xs f s → LP (StV.Fix { v with stands := nv } M p) (h4.set p (.row (σ.cells { v with stands := nv }) 0 true)) w xs f s := fun {α w xs f s} ql => by
    refine ⟨?_, fun e b hb => ?_⟩
    · rcases ql.1 with q1 | ⟨b, o, sp, c, row, rfl, h1, h2⟩
      · exact .inl q1
      · by_cases e : xs = []
        · subst e; exact .inl ⟨rfl, _, _, rfl⟩
        · have hb := ql.2 e b rfl
          exact .inr ⟨b, o, sp, c, row, rfl, by unfold rowAt; rw [gs _ b (row_lt hk h1) hb.2.1 hb.2.2.2.2.2.2.2]; exact h1, h2⟩
    · have hb' := ql.2 e b hb
      refine ⟨hb'.1, hb'.2.1, hb'.2.2.1, hb'.2.2.2.1, hb'.2.2.2.2.1, hb'.2.2.2.2.2.1, hb'.2.2.2.2.2.2.1, ?_⟩
      show blkOf nv ≠ some b
      rw [bn]
      rcases ql.1 with ⟨e', _⟩ | ⟨b', o, sp, c, row, rfl, h1, h2⟩
      · exact absurd e' e
      · simp [blkOf] at hb; subst hb
        have := row_lt hk h1
        simp; omega
  have mr : ∀ {w : Value} {l : List Int}, MR h w l → Apart w v.stands → MR (h4.set p (.row (σ.cells { v with stands := nv }) 0 true)) w l := fun {w l} qm ha => by
    rcases qm with qm | ⟨b, sp, c, rfl, h1⟩
    · exact .inl qm
    · refine .inr ⟨b, sp, c, rfl, ?_⟩
      rw [gs _ b (get_lt hk h1) (by rintro rfl; rw [q.row] at h1; simp at h1) (ha b rfl)]; exact h1
  have ap : ∀ {w : Value} {l : List Int}, MR h w l → Apart w nv := fun {w l} qm b hb e => by
    rw [bn] at e; simp at e
    rcases qm with ⟨_, c, rfl⟩ | ⟨b', sp, c, rfl, h1⟩
    · simp [blkOf] at hb
    · simp [blkOf] at hb; have := get_lt hk h1; omega
  exact {
    row := get_set_self' _ _ _
    suite := ⟨fixlt q.suite.w, fixlt q.suite.pr, by obtain ⟨us, q1, q2⟩ := q.suite.wd; exact ⟨us, fixlt q1, q2.map fun _ _ hu => ⟨fixlt hu.signs, fixlt hu.cuts, hu.free⟩⟩, fixlt q.suite.dry, fixlt q.suite.wk, fixlt q.suite.ct, by obtain ⟨us, q1, q2⟩ := q.suite.sp; exact ⟨us, fixlt q1, q2.map fun _ _ hu => fixlt hu⟩, fixlt q.suite.bo, by obtain ⟨us, q1, q2⟩ := q.suite.st; exact ⟨us, fixlt q1, q2.map fun _ _ hu => ⟨hu.board, hu.round, hu.lo, hu.hi, fixlt hu.needs, hu.nil⟩⟩, fixlt q.suite.ti, fixlt q.suite.of, fixlt q.suite.bd, fixlt q.suite.tr⟩
    plan := fixlt q.plan
    sk := mr q.sk q.a4
    hands := mr q.hands q.a7
    hours := mr q.hours q.a9
    paid := mr q.paid q.a10
    stands := by
      have : (σ.stands ++ [n]).length = σ.stands.length + 1 := by simp
      show SL M _ nv ((σ.stands ++ [n]).flatMap ints) 1 (σ.stands ++ [n]).length
      rw [this, List.flatMap_append]
      exact q4.keep fun b hb => Heap.get_set_ne _ _ (by rw [bn] at hb; simp at hb; omega)
    left := by obtain ⟨es, c, e, k⟩ := q.left; exact ⟨es, c, by rw [gs _ _ ml.1 ml.2.2 ml.2.1]; exact e, k⟩
    low := q.low
    a1 := q.a1
    a2 := q.a2
    a3 := q.a3
    a4 := ap q.sk
    a5 := q.a5
    a6 := q.a6
    a7 := ap q.hands
    a8 := q.a8
    a9 := ap q.hours
    a10 := ap q.paid
    hc := q.hc }
end Go.Am

namespace Go.Am
open Go Go.Proofs
def F63_T92 := A2 @bs_22 <| A2 @fld_257_0 <| A2 @fld_257_1 <| A2 @fld_257_2 <| A2 @fld_257_3 <| A2 @fld_257_4 <| A2 @fld_257_5 <| A2 @fld_257_6 <| A2 @fld_257_7 <| A2 @fld_257_8 <| A2 @fld_257_9 <| A2 @fp_110_1 <| A2 @fp_257_0 <| A2 @fp_257_2 <| A2 @fp_257_4 <| A2 @fp_257_5 <| A2 @fp_257_6 <| A2 @fp_257_8 <| A2 @fp_257_9 <| A2 @fp_38_1 <| A2 @fp_38_2 <| A2 @fp_47_0 <| A2 @fp_49_1 <| A2 @fp_49_3 <| A2 @fp_49_6 <| A2 @ix_22 <| A2 @ld_154 <| A2 @ld_22 <| A2 @ld_255 <| A2 @ld_32 <| A2 @ld_36 <| A2 @ld_49 <| A2 @ld_80 <| A2 @len_22 <| A2 @len_36 <| A2 @part_3 <| A2 @size_154 <| A2 @size_22 <| A2 @size_255 <| A2 @size_257 <| A2 @size_3 <| A2 @size_80 <| A2 @sp_257_0 <| A2 @sp_257_1 <| A2 @sp_257_2 <| A2 @sp_257_3 <| A2 @sp_257_4 <| A2 @sp_257_5 <| A2 @sp_257_6 <| A2 @sp_257_7 <| A2 @sp_257_8 <| A2 @sp_257_9 <| A2 @und_154 <| A2 @und_22 <| A2 @und_255 <| A2 @zero_154 <| A2 @zero_22 <| A2 @zero_255 @zero_80
theorem setAll_two (n : Nat) (f : Nat → Value) (t t' : Tmp) (v v' : Value) : setAll [t, t'] [v, v'] (T n f) = T n (upd (upd f t v) t' v') := by
  show tset (tset (T n f) t v) t' v' = _
  rw [tset_T, tset_T]
theorem IsState.notMut {N : Nat} {h : Heap} {p b : Nat} {σ : Sta} {v : StV} {x : AObj} (q : IsState N h p σ v) (hg : h.get b = some x) (hx : ∀ c, x ≠ .row c 1 true) (hm : ∀ es c, x ≠ .map es c) (hb : b ≠ p) : ¬ v.Mut p b ∧ blkOf v.stands ≠ some b := by
  refine ⟨?_, q.stands.other hg hx⟩
  rintro (e | rfl | e | e | e | e)
  · exact hb e
  · obtain ⟨es, c, e, _⟩ := q.left; rw [hg] at e; simp at e; exact hm _ _ e
  · exact q.sk.noRow hg hx e
  · exact q.hands.noRow hg hx e
  · exact q.hours.noRow hg hx e
  · exact q.paid.noRow hg hx e
theorem MR.lt {h : Heap} {v : Value} {l : List Int} {b : Nat} (q : MR h v l) (hk : HOK h) (hb : blkOf v = some b) : b < h.next := by
  rcases q with ⟨_, c, rfl⟩ | ⟨b', sp, c, rfl, h1⟩
  · simp [blkOf] at hb
  · simp [blkOf] at hb; subst hb; exact get_lt hk h1
theorem IsState.mut_lt {N : Nat} {h : Heap} {p b : Nat} {σ : Sta} {v : StV} (q : IsState N h p σ v) (hk : HOK h) (hb : v.Mut p b) : b < h.next := by
  rcases hb with rfl | rfl | e | e | e | e
  · exact get_lt hk q.row
  · obtain ⟨es, c, e, _⟩ := q.left; exact get_lt hk e
  · exact q.sk.lt hk e
  · exact q.hands.lt hk e
  · exact q.hours.lt hk e
  · exact q.paid.lt hk e
def Does (h : Heap) (evs : List EntryV) (T : Nat → Sta) : Prop := ∀ i u, evs[i]? = some u → ∀ h1 p v, HOK h1 → 0 < h1.next → Fr h h1 → IsState h.next h1 p (T i) v → ∃ act, CW CC 66 [.agg ⟨u.cells⟩] h1 (fun r h2 => r = act ∧ Fr h1 h2) ∧
  ∀ h2, HOK h2 → Fr h1 h2 → CW CC 158 [.pointer (some ⟨p, 0, none⟩), act] h2 fun _ h3 => IsState h.next h3 p { T (i + 1) with stands := (T i).stands } v ∧ Gr (v.Mut p) h2 h3
def StJ (M p c3 df l : Nat) (R : ALoop) (T : Nat → Sta) (F : Nat → Prop) (i : Nat) (h : Heap) : Prop := HOK h ∧ h.get c3 = some (.row [.pointer (some ⟨p, 0, none⟩)] 0 true) ∧ h.get df = some (.deferred true) ∧ h.get l = some (.loop R) ∧
  ∃ v, IsState M h p (T i) v ∧ (∀ b, F b ↔ v.Mut p b ∨ blkOf v.stands = some b ∨ b = l) ∧ c3 ≠ p ∧ v.left < c3
set_option maxRecDepth 20000 in
set_option maxHeartbeats 4000000 in
theorem stands_d {h : Heap} (hk : HOK h) (hp : 0 < h.next) {N d : Nat} {S : SuiteD} {E : List Entry} {w : DeskV} (D : IsDesk N h d S E w) (sm : S.Small) (ex1 : S.coats = exD.coats) (ex2 : S.bench = exD.bench) (ho : S.prices.offs.length ≤ 4) (he : w.evs.length ≤ 1000) (hu : ∀ e ∈ w.evs, e.kind ≠ 13) {T : Nat → Sta} (T0 : T 0 = sta0 S) (TS : ∀ i, (T (i + 1)).stands = (T i).stands ++ [(i : Int)]) (Hs : Does h w.evs T) :
    CW CC 63 [.pointer (some ⟨d, 0, none⟩)] h fun r h' => (∃ p v, r = .pointer (some ⟨p, 0, none⟩) ∧ IsState h.next h' p (T w.evs.length) v) ∧ Fr h h' := by
  have rd : rowAt h d = some (S.desk w) := by unfold rowAt; rw [D.row]; rfl
  refine CWo_in Tryz.f63 (by kernel_rfl) (by kernel_rfl) rfl rfl ?_
  simp only [Tryz.f63]
  simp (maxDischargeDepth := 30) only [AA, ↓reduceIte, Nat.reduceLT, Nat.reduceEqDiff, Nat.reduceAdd, Nat.reduceMul, reduceCtorEq, Nat.reduceLeDiff, Int.reduceNe, Int.reduceEq, XH, F63_T92, hk, rd, sd_su]
  refine W_call (own_d hk hp D.suite D.sk sm) ?_
  rintro _ h1 ⟨⟨u, rfl, iu, sk⟩, f1⟩
  have n1 := f1.next
  have k1 := f1.ok
  have mc : ∀ l, matchT (h1.ex l) false (dtOf coatFirst0A) [u.dry, u.wk, u.ct] = true := fun l => coats_match (iu.fr k1 (ex_fr l (Fr.refl k1))) ex1
  obtain ⟨p1, c1, e1⟩ := iu.bo.1.len
  obtain ⟨p2, c2, e2⟩ := iu.st.len
  obtain ⟨p3, c3, e3⟩ := iu.of.1.len
  rw [ex2] at e1 e2
  have e1 : u.bo = .slice p1 2 c1 := e1
  have e2 : u.st = .slice p2 4 c2 := e2
  have z1 : sameV u.bo u.bo = true := by rw [e1]; exact same_slice _ _ _
  have z2 : sameV u.st u.st = true := by rw [e2]; exact same_slice _ _ _
  have z3 : sameV u.of u.of = true := by rw [e3]; exact same_slice _ _ _
  simp (maxDischargeDepth := 30) only [AA, ↓reduceIte, Nat.reduceLT, Nat.reduceEqDiff, Nat.reduceAdd, Nat.reduceMul, reduceCtorEq, Nat.reduceLeDiff, Int.reduceNe, Int.reduceEq, XH, F63_T92, k1, build_state]
  refine W_draw [(true, 0), (true, 1), (true, 2), (true, 3), (true, 4), (true, 5), (true, 6), (false, 0), (true, 7), (true, 8), (true, 9), (true, 10), (true, 11), (true, 12)] (by kernel_rfl) ?_
  simp (maxDischargeDepth := 30) only [AA, ↓reduceIte, Nat.reduceLT, Nat.reduceEqDiff, Nat.reduceAdd, Nat.reduceMul, reduceCtorEq, Nat.reduceLeDiff, Int.reduceNe, Int.reduceEq, AMR, XH, SQ, F63_T92, k1, stv0, first_c, mc]
  refine W_draw [(true, 0), (true, 1), (true, 2), (true, 3), (true, 4), (true, 5), (true, 6), (true, 7), (true, 8), (true, 9), (false, 0), (true, 10), (true, 11), (true, 12)] (by kernel_rfl) ?_
  simp (maxDischargeDepth := 30) only [AA, ↓reduceIte, Nat.reduceLT, Nat.reduceEqDiff, Nat.reduceAdd, Nat.reduceMul, reduceCtorEq, Nat.reduceLeDiff, Int.reduceNe, Int.reduceEq, AMR, XH, SQ, F63_T92, k1, stv0, e2, rep4]
  refine W_draw [(true, 0), (true, 1), (true, 2), (true, 3), (true, 4), (true, 5), (true, 6), (true, 7), (true, 8), (true, 9), (false, 0), (true, 10), (true, 11), (true, 12)] (by kernel_rfl) ?_
  simp (maxDischargeDepth := 30) only [AA, ↓reduceIte, Nat.reduceLT, Nat.reduceEqDiff, Nat.reduceAdd, Nat.reduceMul, reduceCtorEq, Nat.reduceLeDiff, Int.reduceNe, Int.reduceEq, AMR, XH, SQ, F63_T92, k1, stv0, e1, rep2]
  refine W_draw [(true, 0), (true, 1), (true, 2), (true, 3), (true, 4), (true, 5), (true, 6), (true, 7), (true, 8), (true, 9), (true, 10), (true, 11)] (by kernel_rfl) ?_
  simp (maxDischargeDepth := 30) only [AA, ↓reduceIte, Nat.reduceLT, Nat.reduceEqDiff, Nat.reduceAdd, Nat.reduceMul, reduceCtorEq, Nat.reduceLeDiff, Int.reduceNe, Int.reduceEq, AMR, XH, SQ, F63_T92, k1, stv0, e3, e2, mk_z ho]
  have hkey : ∀ n : Int, keyFits CC 3 (.int .i64 n) = true := fun n => by kernel_rfl
  refine W_for [4, 69, 70, 71, 72, 73, 74, 75, 76, 77] 69 4 (fun i g h' => ∃ es cl, h' = h1.ex (.map es cl :: objsA2 S u h1.next S.prices.offs.length) ∧ Keys es (upto i))
    (by simp only [upd_at, ↓reduceIte]) ⟨[], 0, rfl, rfl⟩ ?_ ?_
  · rintro i g _ hi ag g69 ⟨es, cl, rfl, hes⟩ ih
    have hf := (KV.find (K := Value.int .i64) (V := fun _ => .bool true) int_eq 0 (i : Int) hes).2 (by intro hm; unfold upto at hm; rw [List.mem_map] at hm; obtain ⟨j, hj, e⟩ := hm; rw [List.mem_range] at hj; omega)
    have eu := update_of (C := CC) (v := .bool true) und_255 (hkey i) (ex_at0 (h := h1) (x := .map es cl) (l := objsA2 S u h1.next S.prices.offs.length) rfl) hf
    rw [ex_put0 _ rfl] at eu
    simp (maxDischargeDepth := 30) only [AA, ↓reduceIte, Nat.reduceLT, Nat.reduceEqDiff, Nat.reduceAdd, Nat.reduceMul, reduceCtorEq, Nat.reduceLeDiff, Int.reduceNe, Int.reduceEq, XH, SQ, F63_T92, ag.r, NE, g69, k1, lt_t hi, objsA2, stvA] at eu ⊢
    simp (maxDischargeDepth := 30) only [AA, ↓reduceIte, Nat.reduceLT, Nat.reduceEqDiff, Nat.reduceAdd, Nat.reduceMul, reduceCtorEq, Nat.reduceLeDiff, Int.reduceNe, Int.reduceEq, XH, SQ, F63_T92, ag.r, NE, g69, k1, eu, i_next hi (by omega)]
    exact ih _ _ (by simp only [AG, Nat.reduceEqDiff, ag]) (by simp only [upd_at, ↓reduceIte]) ⟨_, _, rfl, by rw [upto_succ]; exact KV.snoc (K := Value.int .i64) (V := fun _ => .bool true) hes (i : Int) cl⟩
  · rintro g _ ag g69 ⟨es, cl, rfl, hes⟩
    have st := start_state f1 iu sk (cl := cl) hes
    have fx := ex_fr (.map es cl :: objsA2 S u h1.next S.prices.offs.length) f1
    have c3 : (h1.ex (.map es cl :: objsA2 S u h1.next S.prices.offs.length)).get (h1.next + 2) = some (.row [.pointer (some ⟨h1.next + 1, 0, none⟩)] 0 true) := by rw [ex_at rfl (by simp [objsA2])]; rfl
    generalize (h1.ex (.map es cl :: objsA2 S u h1.next S.prices.offs.length)) = h2 at st fx c3 ⊢
    simp (maxDischargeDepth := 30) only [AA, ↓reduceIte, Nat.reduceLT, Nat.reduceEqDiff, Nat.reduceAdd, Nat.reduceMul, reduceCtorEq, Nat.reduceLeDiff, Int.reduceNe, Int.reduceEq, XH, SQ, F63_T92, ag.r, NE, g69, fx.ok, lt_f, standing_d, L_range]
    have nx := fx.next
    have tl : ∀ i, (T i).stands.length = i := fun i => by
      induction i with
      | zero => rw [T0]; rfl
      | succ i ih => rw [TS]; simp [ih]
    have pc : h1.next + 2 < h2.next := get_lt fx.ok c3
    have fA := ex_fr [.row [.pointer (some ⟨d, 0, none⟩)] 0 true] (Fr.refl fx.ok)
    have gA : (h2.ex [.row [.pointer (some ⟨d, 0, none⟩)] 0 true]).get h2.next = some (.row [.pointer (some ⟨d, 0, none⟩)] 0 true) := ex_at0 rfl
    have nA : (h2.ex [.row [.pointer (some ⟨d, 0, none⟩)] 0 true]).next = h2.next + 1 := by rw [ex_next]; rfl
    have cA := fA.get' fx.ok c3
    have sA := st.fr fx.ok fA
    have fhA := fx.trans fA
    generalize (h2.ex [.row [.pointer (some ⟨d, 0, none⟩)] 0 true]) = hA at fA gA nA cA sA fhA ⊢
    refine W_range' (P := fun R _ h' => (∃ F, StJ h.next (h1.next + 1) (h1.next + 2) hA.next (hA.next + 1) R T F w.evs.length h') ∧ Fr h h') ?_ ?_
    · intro R hR
      have f4 : Fr hA ((hA.alloc (.deferred true)).alloc (.loop R)) := ((Fr.refl fA.ok).alloc _).alloc _
      have d4 : ((hA.alloc (.deferred true)).alloc (.loop R)).get hA.next = some (.deferred true) := by rw [get_old _ (by simp)]; exact get_at _ rfl
      have l4 : ((hA.alloc (.deferred true)).alloc (.loop R)).get (hA.next + 1) = some (.loop R) := get_at _ (by simp)
      have c4 := f4.get' fA.ok cA
      have g4 := f4.get' fA.ok gA
      have n4 : ((hA.alloc (.deferred true)).alloc (.loop R)).next = hA.next + 2 := by simp
      have s4 := sA.fr fA.ok f4
      generalize ((hA.alloc (.deferred true)).alloc (.loop R)) = hB at f4 d4 l4 c4 g4 n4 s4 ⊢
      have X : EatsN (StJ h.next (h1.next + 1) (h1.next + 2) hA.next (hA.next + 1) R T) (hA.next + 1) h w.evs := by
        refine ⟨?_, ?_, ?_⟩
        · rintro F i g ⟨kg, gc, gd, gl, v, sv, hF, hc⟩ b hb
          rcases (hF b).1 hb with hb | hb | rfl
          · exact ⟨sv.mut_low hb, sv.mut_lt kg hb⟩
          · exact sv.stands.blk_lt kg hb
          · exact ⟨by omega, get_lt kg gl⟩
        · rintro F i g g' ⟨kg, gc, gd, gl, v, sv, hF, hc⟩ _ fr
          exact ⟨fr.ok, fr.get' kg gc, fr.get' kg gd, fr.get' kg gl, v, sv.fr kg fr, hF, hc⟩
        · rintro F i gh u kg hg0 fg ⟨_, gc, gd, gl, v, sv, hF, hc⟩ gu
          have rok : isReady R.state = true := by rw [hR]; rfl
          have hA1 : R.assign = _ := congrArg ALoop.assign hR
          have hA2 : R.body = _ := congrArg ALoop.body hR
          have hA3 : R.params = _ := congrArg ALoop.params hR
          have hA4 : R.tmps = _ := congrArg ALoop.tmps hR
          have hR1 : (R.turn .busy R.pending).turn (stateBehind none) none = R := by rw [hR]; rfl
          simp only [loopRec] at hA1 hA2 hA3 hA4
          have ng := fg.next
          have lg := get_lt kg gl
          have cg := get_lt kg gc
          have dg := get_lt kg gd
          obtain ⟨en, _, hen⟩ := LR.get' D.nums gu
          obtain ⟨pu, cu, eu⟩ := hen.2.1.len
          have key : ∃ b h', yieldTo (Lim CC) (hA.next + 1) [Value.int IntKind.i64 ↑i, Value.agg ⟨u.cells⟩] gh = some (.ret (.bool b) h' none) ∧ (b = true ∧ Gr F gh h' ∧ ∃ F', (∀ b, F' b → F b ∨ gh.next ≤ b) ∧ StJ h.next (h1.next + 1) (h1.next + 2) hA.next (hA.next + 1) R T F' (i + 1) h') := by
            refine yield_of (P := fun b h' => b = true ∧ Gr F gh h' ∧ ∃ F', (∀ b, F' b → F b ∨ gh.next ≤ b) ∧ StJ h.next (h1.next + 1) (h1.next + 2) hA.next (hA.next + 1) R T F' (i + 1) h') gl (by rw [hA3]; rfl) ?_
            rw [hA1, hA2, hA3, hA4, setAll_two]
            have gl' : (gh.ex [.row [.int .i64 u.kind, .slice pu en.nums.length cu] 0 true]).get (hA.next + 1) = some (.loop R) := by rw [ex_lt lg]; exact gl
            simp (maxDischargeDepth := 30) only [AA, ↓reduceIte, Nat.reduceLT, Nat.reduceEqDiff, Nat.reduceAdd, Nat.reduceMul, reduceCtorEq, Nat.reduceLeDiff, Int.reduceNe, Int.reduceEq, XH, F63_T92, kg, EntryV.cells, eu, L_begin gl' rok, lg]
            have rB : RK gh ((gh.set (hA.next + 1) (.loop (R.turn .busy R.pending))).ex [.row [.int .i64 u.kind, .slice pu en.nums.length cu] 0 true]) :=
              ⟨ex_ok _ (kg.set lg _), by simp [ex_next], fun j l s o hj => by
                rw [ex_lt (by simpa using get_lt kg hj), Heap.get_set_ne _ _ (by rintro rfl; rw [gl] at hj; simp at hj)]; exact hj⟩
            have oB : ∀ j, j < gh.next → j ≠ hA.next + 1 → ((gh.set (hA.next + 1) (.loop (R.turn .busy R.pending))).ex [.row [.int .i64 u.kind, .slice pu en.nums.length cu] 0 true]).get j = gh.get j := fun j hj hn => by
              rw [ex_lt (by simpa using hj), Heap.get_set_ne _ _ hn]
            have lB : ((gh.set (hA.next + 1) (.loop (R.turn .busy R.pending))).ex [.row [.int .i64 u.kind, .slice pu en.nums.length cu] 0 true]).get (hA.next + 1) = some (.loop (R.turn .busy R.pending)) := by rw [ex_lt (by simpa using lg), get_set_self']
            have uB : ((gh.set (hA.next + 1) (.loop (R.turn .busy R.pending))).ex [.row [.int .i64 u.kind, .slice pu en.nums.length cu] 0 true]).get gh.next = some (.row [.int .i64 u.kind, .slice pu en.nums.length cu] 0 true) := ex_at0 (by simp)
            have nB : ((gh.set (hA.next + 1) (.loop (R.turn .busy R.pending))).ex [.row [.int .i64 u.kind, .slice pu en.nums.length cu] 0 true]).next = gh.next + 1 := by simp [ex_next]
            generalize ((gh.set (hA.next + 1) (.loop (R.turn .busy R.pending))).ex [.row [.int .i64 u.kind, .slice pu en.nums.length cu] 0 true]) = hC at rB oB lB uB nB ⊢
            refine W_draw [(true, 0), (true, 1), (true, 2), (false, 0), (true, 3)] (by kernel_rfl) ?_
            have rc : rowAt hC (h1.next + 2) = some [.pointer (some ⟨h1.next + 1, 0, none⟩)] := by unfold rowAt; rw [rB.row _ _ _ _ gc]; rfl
            have ru : rowAt hC gh.next = some [.int .i64 u.kind, .slice pu en.nums.length cu] := by unfold rowAt; rw [uB]; rfl
            have ml : v.left < gh.next ∧ v.left ≠ hA.next + 1 := by
              obtain ⟨es, c, e, _⟩ := sv.left
              exact ⟨get_lt kg e, by intro e'; rw [e', gl] at e; simp at e⟩
            have svC := sv.rk rB (oB _ ml.1 ml.2)
            have fC : Fr h hC := ⟨rB.ok, by omega, fun j hj => by rw [oB j (by omega) (by omega)]; exact fg.get j hj⟩
            obtain ⟨act, hact, hdoes⟩ := Hs i u gu hC (h1.next + 1) v rB.ok (by omega) fC svC
            rw [EntryV.cells, eu] at hact
            simp (maxDischargeDepth := 30) only [AA, ↓reduceIte, Nat.reduceLT, Nat.reduceEqDiff, Nat.reduceAdd, Nat.reduceMul, reduceCtorEq, Nat.reduceLeDiff, Int.reduceNe, Int.reduceEq, AMR, XH, F63_T92, rB.ok, ag.r, NE, rc, ru]
            refine W_callP hact ?_
            rintro _ hD ⟨rfl, fD⟩
            have rcD := fD.row' rB.ok rc
            simp (maxDischargeDepth := 30) only [AA, ↓reduceIte, Nat.reduceLT, Nat.reduceEqDiff, Nat.reduceAdd, Nat.reduceMul, reduceCtorEq, Nat.reduceLeDiff, Int.reduceNe, Int.reduceEq, AMR, XH, F63_T92, fD.ok, ag.r, NE, rcD]
            refine W_callP (hdoes hD fD.ok fD) ?_
            rintro _ hE ⟨sE, gE⟩
            have cD := fD.get' rB.ok (rB.row _ _ _ _ gc)
            have dC : hC.get hA.next = some (.deferred true) := by rw [oB _ dg (by omega)]; exact gd
            have dD := fD.get' rB.ok dC
            have lD := fD.get' rB.ok lB
            have sD := svC.fr rB.ok fD
            have cE := gE.get' fD.ok (sD.notMut cD (by simp) (by simp) (by omega)).1 cD
            have dE := gE.get' fD.ok (sD.notMut dD (by simp) (by simp) (by omega)).1 dD
            have lE := gE.get' fD.ok (sD.notMut lD (by simp) (by simp) (by omega)).1 lD
            have nD := fD.next
            have nE := gE.next
            have rcE : rowAt hE (h1.next + 2) = some [.pointer (some ⟨h1.next + 1, 0, none⟩)] := by unfold rowAt; rw [cE]; rfl
            have rpE : rowAt hE (h1.next + 1) = some (Sta.cells { T (i + 1) with stands := (T i).stands } v) := by unfold rowAt; rw [sE.row]; rfl
            have ti := tl i
            obtain ⟨h5, e5, k5, g5p, s5, gr5⟩ := stand_step gE.ok (by omega) sE (i : Int) (by show (T i).stands.length ≤ 1000; rw [ti]; have := (List.getElem?_eq_some_iff.1 gu).1; omega) (by omega)
            have zst : sameV v.stands v.stands = true := by obtain ⟨a, b, e⟩ := sE.stands.value; rw [e]; exact same_slice _ _ _
            have ncE := sE.notMut cE (by simp) (by simp) (by omega)
            have ndE := sE.notMut dE (by simp) (by simp) (by omega)
            have nlE := sE.notMut lE (by simp) (by simp) (by omega)
            have g5c : h5.get (h1.next + 2) = hE.get (h1.next + 2) := by
              have := gr5.get (h1.next + 2) (get_lt gE.ok cE) (by rintro (e | e); omega; exact ncE.2 e)
              rw [Heap.get_set_ne _ _ (by omega)] at this; exact this
            have rc5 : rowAt h5 (h1.next + 2) = some [.pointer (some ⟨h1.next + 1, 0, none⟩)] := by unfold rowAt; rw [g5c, cE]; rfl
            have rp5 : rowAt h5 (h1.next + 1) = some (Sta.cells { T (i + 1) with stands := (T i).stands } v) := by unfold rowAt; rw [g5p]; rfl
            have lc5 : h1.next + 2 < hE.next := get_lt gE.ok cE
            have lp5 : h1.next + 1 < hE.next := get_lt gE.ok sE.row
            simp (maxDischargeDepth := 30) only [AA, ↓reduceIte, Nat.reduceLT, Nat.reduceEqDiff, Nat.reduceAdd, Nat.reduceMul, reduceCtorEq, Nat.reduceLeDiff, Int.reduceNe, Int.reduceEq, AMR, XH, F63_T92, gE.ok, NE, ag.r, rcE]
            refine W_draw [(true, 0), (true, 1), (true, 2), (true, 3), (true, 4), (true, 5), (true, 6), (true, 7), (false, 0), (true, 8), (true, 9), (true, 10)] (by kernel_rfl) ?_
            simp (maxDischargeDepth := 30) only [AA, ↓reduceIte, Nat.reduceLT, Nat.reduceEqDiff, Nat.reduceAdd, Nat.reduceMul, reduceCtorEq, Nat.reduceLeDiff, Int.reduceNe, Int.reduceEq, AMR, XH, SQ, F63_T92, gE.ok, NE, ag.r, rcE, rpE, stc_st, zst, lc5, lp5, e5, k5, rc5, rp5, g5p]
            dsimp only at s5 gr5
            generalize (h5.set (h1.next + 1) (AObj.row (Sta.cells { T (i + 1) with stands := (T i).stands } { v with stands := .slice (some ⟨hE.next + 1, 0, some 1⟩) ((T i).stands.length + 1) ((T i).stands.length + 1) }) 0 true)) = hF' at s5 gr5 ⊢
            rw [show ({ T (i + 1) with stands := (T i).stands ++ [(i : Int)] } : Sta) = T (i + 1) by rw [← TS]] at s5
            have nF := gr5.next
            have lF := gr5.get' gE.ok (by rintro (e | e); omega; exact nlE.2 e) lE
            have cF := gr5.get' gE.ok (by rintro (e | e); omega; exact ncE.2 e) cE
            have dF := gr5.get' gE.ok (by rintro (e | e); omega; exact ndE.2 e) dE
            have lz := get_lt gr5.ok lF
            refine ⟨none, R.turn .busy R.pending, rfl, trivial, lF, rfl, ?_, fun b => v.Mut (h1.next + 1) b ∨ b = hE.next + 1 ∨ b = hA.next + 1, ?_, ?_⟩
            · refine ⟨gr5.ok.set lz _, by simp; omega, fun j hj hn => ?_⟩
              have hn' := fun e => hn ((hF j).2 e)
              rw [Heap.get_set_ne _ _ (fun e => hn' (.inr (.inr e))), gr5.get j (by omega) (by rintro (e | e); exact hn' (.inl (.inl e)); exact hn' (.inr (.inl e))), gE.get j (by omega) (fun e => hn' (.inl e)), fD.get j (by omega), oB j hj fun e => hn' (.inr (.inr e))]
            · rintro b (hb | hb | hb)
              · exact .inl ((hF b).2 (.inl hb))
              · exact .inr (by omega)
              · exact .inl ((hF b).2 (.inr (.inr hb)))
            · have rk : RK hF' (hF'.set (hA.next + 1) (.loop ((R.turn .busy R.pending).turn (stateBehind none) none))) := ⟨gr5.ok.set lz _, by simp, fun j l s o hj => by
                rw [Heap.get_set_ne _ _ (by rintro rfl; rw [lF] at hj; simp at hj)]; exact hj⟩
              refine ⟨rk.ok, by rw [Heap.get_set_ne _ _ (by omega)]; exact cF, by rw [Heap.get_set_ne _ _ (by omega)]; exact dF, by rw [get_set_self', hR1], _, s5.rk rk (Heap.get_set_ne _ _ ml.2), fun b => ?_, hc⟩
              constructor
              · rintro (e | e | e)
                · exact .inl e
                · exact .inr (.inl (by rw [e]; rfl))
                · exact .inr (.inr e)
              · rintro (e | e | e)
                · exact .inl e
                · exact .inr (.inl (by have e : some (hE.next + 1) = some b := e; simp at e; exact e.symm))
                · exact .inr (.inr e)
          obtain ⟨b, h', e, rfl, gr, rest⟩ := key
          exact ⟨h', e, gr, rest⟩
      have fh4 := fhA.trans f4
      obtain ⟨rv, h', e, ⟨F', hJ⟩, fr⟩ := standing1 hk fh4 (by omega) X D g4 (F := fun b => (stvA u h1.next S.prices.offs.length).Mut (h1.next + 1) b ∨ blkOf (stvA u h1.next S.prices.offs.length).stands = some b ∨ b = hA.next + 1)
        (by rintro (hb | hb | hb)
            · exact (s4.notMut g4 (by simp) (by simp) (by omega)).1 hb
            · simp [stvA, blkOf] at hb
            · omega) hu he ⟨f4.ok, c4, d4, l4, _, by rw [T0]; exact s4, fun b => Iff.rfl, by omega, by show h1.next < _; omega⟩
      exact ⟨rv, h', e, ⟨F', hJ⟩, fr⟩
    · rintro R hR rv h' ⟨⟨F, kg, gc, gd, gl, v, sv, hF, hc⟩, fr⟩
      refine ⟨R, gl, by rw [hR]; rfl, ?_⟩
      have hp' : R.pending = none := by rw [hR]; rfl
      rw [hp', items_none, mark_nil]
      have ml := get_lt kg gl
      have c2 : rowAt (h'.set (hA.next + 1) (.loop (R.turn .exhausted none))) (h1.next + 2) = some [.pointer (some ⟨h1.next + 1, 0, none⟩)] := by unfold rowAt; rw [Heap.get_set_ne _ _ (by omega), gc]; rfl
      have d2 : (h'.set (hA.next + 1) (.loop (R.turn .exhausted none))).get hA.next = some (.deferred true) := by rw [Heap.get_set_ne _ _ (by omega)]; exact gd
      have f2 : Fr h (h'.set (hA.next + 1) (.loop (R.turn .exhausted none))) := fr.set (by omega) ml _
      have s2 : IsState h.next (h'.set (hA.next + 1) (.loop (R.turn .exhausted none))) (h1.next + 1) (T w.evs.length) v := sv.rk ⟨f2.ok, by simp, fun j l s o hj => by
        rw [Heap.get_set_ne _ _ (by rintro rfl; rw [gl] at hj; simp at hj)]; exact hj⟩ (Heap.get_set_ne _ _ (by
          obtain ⟨es, c, e, _⟩ := sv.left; intro e'; rw [e', gl] at e; simp at e))
      generalize (h'.set (hA.next + 1) (.loop (R.turn .exhausted none))) = h2' at c2 d2 f2 s2 ⊢
      simp (maxDischargeDepth := 30) only [AA, ↓reduceIte, Nat.reduceLT, Nat.reduceEqDiff, Nat.reduceAdd, Nat.reduceMul, reduceCtorEq, Nat.reduceLeDiff, Int.reduceNe, Int.reduceEq, XH, F63_T92, f2.ok, NE, ag.r, c2, PostO_retD]
      have dl := get_lt f2.ok d2
      have s3 := s2.rk (h' := h2'.set hA.next (.deferred false)) ⟨f2.ok.set dl _, by simp, fun j l s o hj => by
        rw [Heap.get_set_ne _ _ (by rintro rfl; rw [d2] at hj; simp at hj)]; exact hj⟩ (Heap.get_set_ne _ _ (by
          obtain ⟨es, c, e, _⟩ := s2.left; intro e'; rw [e', d2] at e; simp at e))
      exact ⟨d2, ⟨h1.next + 1, v, rfl, s3⟩, f2.set (by omega) dl _⟩
end Go.Am
