/- Parts S2, S3 of the abstract machine over this program, joined: what each part says stands at its head. -/
import Derived.Test.YtlflfbnnjlkkcaaGreatJT93
set_option linter.unusedSimpArgs false
set_option linter.unusedVariables false
set_option linter.defProp false
namespace Go.Am
open Go Go.Proofs
def F158_S2 := A2 @fp_257_0 <| A2 @fp_257_1 <| A2 @fp_257_2 <| A2 @fp_257_3 <| A2 @fp_257_4 <| A2 @fp_257_5 <| A2 @fp_257_6 <| A2 @fp_257_7 <| A2 @fp_257_8 <| A2 @fp_273_0 <| A2 @fp_273_1 <| A2 @fp_275_0 <| A2 @fp_275_1 <| A2 @fp_278_0 <| A2 @fp_278_1 <| A2 @fp_281_0 <| A2 @fp_281_1 <| A2 @fp_28_6 <| A2 @fp_49_0 <| A2 @fp_49_1 <| A2 @fp_49_2 <| A2 @fp_49_5 <| A2 @ix_22 <| A2 @ix_271 <| A2 @ld_22 <| A2 @ld_255 <| A2 @ld_269 <| A2 @ld_3 <| A2 @ld_32 <| A2 @len_271 <| A2 @part_3 <| A2 @size_22 <| A2 @size_267 <| A2 @size_269 <| A2 @size_271 <| A2 @size_273 <| A2 @size_275 <| A2 @size_278 <| A2 @size_281 <| A2 @size_3 <| A2 @size_32 <| A2 @size_35 <| A2 @und_22 <| A2 @und_271 <| A2 @und_3 <| A2 @zero_22 <| A2 @zero_267 <| A2 @zero_269 <| A2 @zero_271 <| A2 @zero_273 <| A2 @zero_275 <| A2 @zero_278 <| A2 @zero_281 <| A2 @zero_3 <| A2 @zero_32 @zero_35
theorem IsState.put {N : Nat} {h h' : Heap} {p b : Nat} {σ σ' : Sta} {v : StV} (q : IsState N h p σ v) (hb : v.Mut p b) (hg : ∀ i, i ≠ b → h'.get i = h.get i) (e1 : σ'.S = σ.S) (e2 : σ'.plan = σ.plan) (e3 : σ'.stands = σ.stands)
    (row : h'.get p = some (.row (σ'.cells v) 0 true)) (sk : MR h' v.u.sk σ.S.stock) (hands : MR h' v.hands σ'.hands) (hours : MR h' v.hours σ'.hours) (paid : MR h' v.paid σ'.paid) (left : ∃ es c, h'.get v.left = some (.map es c) ∧ Keys es σ'.left) : IsState N h' p σ' v := by
  have fx : ∀ i, v.Fix N p i → h'.get i = h.get i := fun i hi => hg i (by
    rintro rfl
    rcases hb with e | e | e | e | e | e
    · exact hi.2.1 e
    · exact hi.2.2.1 e
    · exact hi.2.2.2.1 e
    · exact hi.2.2.2.2.1 e
    · exact hi.2.2.2.2.2.1 e
    · exact hi.2.2.2.2.2.2.1 e)
  exact { q with
    row := row
    suite := by rw [e1]; exact q.suite.keep fx
    plan := by rw [e2]; exact q.plan.keep fx
    sk := by rw [e1]; exact sk
    hands := hands
    hours := hours
    paid := paid
    stands := by
      rw [e3]
      refine q.stands.keep fun i hi => hg i ?_
      rintro rfl
      rcases hb with e | e | e | e | e | e
      · subst e; exact q.stands.other q.row (by simp) hi
      · obtain ⟨es, c, e', _⟩ := q.left; rw [← e] at e'; exact q.stands.other e' (by simp) hi
      · exact q.a4 _ e hi
      · exact q.a7 _ e hi
      · exact q.a9 _ e hi
      · exact q.a10 _ e hi
    left := left }
theorem IsState.ne {N : Nat} {h : Heap} {p : Nat} {σ : Sta} {v : StV} (q : IsState N h p σ v) {w : Value} {l : List Int} (m : MR h w l) {b : Nat} (hb : blkOf w = some b) : p ≠ b ∧ v.left ≠ b :=
  ⟨by rintro rfl; exact m.noRow q.row (by simp) hb, by rintro rfl; obtain ⟨es, c, e', _⟩ := q.left; exact m.noRow e' (by simp) hb⟩
theorem Apart.symm {v w : Value} (h : Apart v w) : Apart w v := fun b hb e => h b e hb
theorem IsState.sHands {N : Nat} {h : Heap} {p b : Nat} {sp : Option Nat} {c : Nat} {σ : Sta} {v : StV} (q : IsState N h p σ v) (e : v.hands = .slice (some ⟨b, 0, sp⟩) σ.hands.length c) {l : List Int} (hl : l.length = σ.hands.length) :
    IsState N (h.set b (.row (l.flatMap ints) 1 true)) p { σ with hands := l } v := by
  have eb : blkOf v.hands = some b := by rw [e]; rfl
  have n := q.ne q.hands eb
  have k : ∀ {w : Value} {m : List Int}, MR h w m → Apart v.hands w → MR (h.set b (.row (l.flatMap ints) 1 true)) w m := fun m a => m.keep fun i hi => Heap.get_set_ne _ _ (by rintro rfl; exact a _ eb hi)
  exact q.put (.inr (.inr (.inr (.inl eb)))) (fun i hi => Heap.get_set_ne _ _ hi) rfl rfl rfl (by rw [Heap.get_set_ne _ _ n.1]; exact q.row) (k q.sk q.a1.symm) (.inr ⟨b, sp, c, by rw [e, hl], get_set_self' _ _ _⟩) (k q.hours q.a5) (k q.paid q.a6) (by rw [Heap.get_set_ne _ _ n.2]; exact q.left)
theorem IsState.sHours {N : Nat} {h : Heap} {p b : Nat} {sp : Option Nat} {c : Nat} {σ : Sta} {v : StV} (q : IsState N h p σ v) (e : v.hours = .slice (some ⟨b, 0, sp⟩) σ.hours.length c) {l : List Int} (hl : l.length = σ.hours.length) :
    IsState N (h.set b (.row (l.flatMap ints) 1 true)) p { σ with hours := l } v := by
  have eb : blkOf v.hours = some b := by rw [e]; rfl
  have n := q.ne q.hours eb
  have k : ∀ {w : Value} {m : List Int}, MR h w m → Apart v.hours w → MR (h.set b (.row (l.flatMap ints) 1 true)) w m := fun m a => m.keep fun i hi => Heap.get_set_ne _ _ (by rintro rfl; exact a _ eb hi)
  exact q.put (.inr (.inr (.inr (.inr (.inl eb))))) (fun i hi => Heap.get_set_ne _ _ hi) rfl rfl rfl (by rw [Heap.get_set_ne _ _ n.1]; exact q.row) (k q.sk q.a2.symm) (k q.hands q.a5.symm) (.inr ⟨b, sp, c, by rw [e, hl], get_set_self' _ _ _⟩) (k q.paid q.a8) (by rw [Heap.get_set_ne _ _ n.2]; exact q.left)
theorem IsState.sPaid {N : Nat} {h : Heap} {p b : Nat} {sp : Option Nat} {c : Nat} {σ : Sta} {v : StV} (q : IsState N h p σ v) (e : v.paid = .slice (some ⟨b, 0, sp⟩) σ.paid.length c) {l : List Int} (hl : l.length = σ.paid.length) :
    IsState N (h.set b (.row (l.flatMap ints) 1 true)) p { σ with paid := l } v := by
  have eb : blkOf v.paid = some b := by rw [e]; rfl
  have n := q.ne q.paid eb
  have k : ∀ {w : Value} {m : List Int}, MR h w m → Apart v.paid w → MR (h.set b (.row (l.flatMap ints) 1 true)) w m := fun m a => m.keep fun i hi => Heap.get_set_ne _ _ (by rintro rfl; exact a _ eb hi)
  exact q.put (.inr (.inr (.inr (.inr (.inr eb))))) (fun i hi => Heap.get_set_ne _ _ hi) rfl rfl rfl (by rw [Heap.get_set_ne _ _ n.1]; exact q.row) (k q.sk q.a3.symm) (k q.hands q.a6.symm) (k q.hours q.a8.symm) (.inr ⟨b, sp, c, by rw [e, hl], get_set_self' _ _ _⟩) (by rw [Heap.get_set_ne _ _ n.2]; exact q.left)
theorem IsState.sLeft {N : Nat} {h : Heap} {p : Nat} {σ : Sta} {v : StV} (q : IsState N h p σ v) {es : List MapEntry} {c : Nat} {l : List Int} (hl : Keys es l) : IsState N (h.set v.left (.map es c)) p { σ with left := l } v := by
  have n : p ≠ v.left := by intro e; obtain ⟨es, c, e', _⟩ := q.left; rw [← e, q.row] at e'; simp at e'
  have k : ∀ {w : Value} {m : List Int}, MR h w m → MR (h.set v.left (.map es c)) w m := fun m => m.keep fun i hi => Heap.get_set_ne _ _ (by rintro rfl; exact (q.ne m hi).2 rfl)
  exact q.put (.inr (.inl rfl)) (fun i hi => Heap.get_set_ne _ _ hi) rfl rfl rfl (by rw [Heap.get_set_ne _ _ n]; exact q.row) (k q.sk) (k q.hands) (k q.hours) (k q.paid) ⟨es, c, get_set_self' _ _ _, hl⟩
theorem IsState.sTariff {N : Nat} {h : Heap} {p : Nat} {σ : Sta} {v : StV} (q : IsState N h p σ v) (t : Int) : IsState N (h.set p (.row (Sta.cells { σ with tariff := t } v) 0 true)) p { σ with tariff := t } v := by
  have n : v.left ≠ p := by intro e; obtain ⟨es, c, e', _⟩ := q.left; rw [e, q.row] at e'; simp at e'
  have k : ∀ {w : Value} {m : List Int}, MR h w m → MR (h.set p (.row (Sta.cells { σ with tariff := t } v) 0 true)) w m := fun m => m.keep fun i hi => Heap.get_set_ne _ _ (by rintro rfl; exact (q.ne m hi).1 rfl)
  exact q.put (.inl rfl) (fun i hi => Heap.get_set_ne _ _ hi) rfl rfl rfl (get_set_self' _ _ _) (k q.sk) (k q.hands) (k q.hours) (k q.paid) (by rw [Heap.get_set_ne _ _ n]; exact q.left)
theorem st_39 (σ : Sta) (v : StV) : (σ.cells v)[39]? = some v.hands := rfl
theorem st_40 (σ : Sta) (v : StV) : (σ.cells v)[40]? = some v.hours := rfl
theorem st_42 (σ : Sta) (v : StV) : (σ.cells v)[42]? = some v.paid := rfl
theorem st_41 (σ : Sta) (v : StV) : (σ.cells v)[41]? = some (.int .i64 σ.tariff) := rfl
theorem st_38 (σ : Sta) (v : StV) : (σ.cells v)[38]? = some (.map (some v.left)) := rfl
theorem sw_41 (σ : Sta) (v : StV) (t : Int) : (σ.cells v).set 41 (.int .i64 t) = Sta.cells { σ with tariff := t } v := rfl
def ST4 := A2 @st_39 <| A2 @st_40 <| A2 @st_42 <| A2 @st_41 <| A2 @st_38 <| A2 @sw_41 @sl_len
theorem MR.row {h : Heap} {v : Value} {l : List Int} (m : MR h v l) {i : Nat} {x : Int} (hx : l[i]? = some x) : ∃ b sp c, v = .slice (some ⟨b, 0, sp⟩) l.length c ∧ h.get b = some (.row (l.flatMap ints) 1 true) ∧ rowAt h b = some (l.flatMap ints) ∧ i < l.length ∧ (l.flatMap ints)[i]? = some (.int .i64 x) ∧ i < (l.flatMap ints).length := by
  rcases m with ⟨e, _⟩ | ⟨b, sp, c, e, hg⟩
  · rw [e] at hx; simp at hx
  · have hi := (List.getElem?_eq_some_iff.1 hx).1
    exact ⟨b, sp, c, e, hg, by unfold rowAt; rw [hg]; rfl, hi, ints_at hx, by rw [flat_len ints_len]; omega⟩
theorem does_end {N : Nat} {h : Heap} {p b : Nat} {x : AObj} {σ σ' : Sta} {v : StV} (hk : HOK h) (q : IsState N h p σ v) (q2 : IsState N (h.set b x) p σ' v) (hb : b < h.next) (hm : v.Mut p b) (l : List AObj) : IsState N ((h.set b x).ex l) p σ' v ∧ Gr (v.Mut p) h ((h.set b x).ex l) := by
  have k := hk.set hb x
  have f := ex_fr l (Fr.refl k)
  refine ⟨q2.fr k f, f.ok, by have := f.next; simp at this; exact this, fun i hi hn => ?_⟩
  rw [f.get i (by simpa using hi), Heap.get_set_ne _ _ (by rintro rfl; exact hn hm)]
set_option maxRecDepth 10000 in
theorem does_7 {N : Nat} {h : Heap} {p : Nat} {σ : Sta} {v : StV} (hk : HOK h) (q : IsState N h p σ v) {i : Nat} {a b : Int} (hi : σ.hands[i]? = some a) :
    CW CC 158 [.pointer (some ⟨p, 0, none⟩), act2 275 i b] h fun _ h' => IsState N h' p { σ with hands := σ.hands.set i b } v ∧ Gr (v.Mut p) h h' := by
  have rp : rowAt h p = some (σ.cells v) := by unfold rowAt; rw [q.row]; rfl
  have np := row_lt hk rp
  obtain ⟨bh, sp, c, e, hg, hr, li, x1, x2⟩ := q.hands.row hi
  have nb := row_lt hk hr
  refine CW_in Tryz.f158 (by kernel_rfl) (by kernel_rfl) rfl rfl ?_
  simp only [Tryz.f158, act2]
  simp (maxDischargeDepth := 30) only [AA, ↓reduceIte, Nat.reduceLT, Nat.reduceEqDiff, Nat.reduceAdd, Nat.reduceMul, reduceCtorEq, Nat.reduceLeDiff, Int.reduceNe, Int.reduceEq, XH, F158_S2, hk, TA]
  refine W_draw [(true, 0), (true, 1), (true, 2), (true, 3), (true, 4), (true, 5), (true, 6), (true, 7), (true, 8), (true, 9)] (by kernel_rfl) ?_
  simp (maxDischargeDepth := 30) only [AA, ↓reduceIte, Nat.reduceLT, Nat.reduceEqDiff, Nat.reduceAdd, Nat.reduceMul, reduceCtorEq, Nat.reduceLeDiff, Int.reduceNe, Int.reduceEq, AMR, XH, F158_S2, hk, rp, np, ST4, e, li, hr, hg, nb, x1, x2, ints_set, Nat.mul_one, Post_end]
  have q2 := q.sHands e (l := σ.hands.set i b) (by simp)
  exact does_end hk q q2 (get_lt hk hg) (.inr (.inr (.inr (.inl (by rw [e]; rfl))))) _
set_option maxRecDepth 10000 in
theorem does_9 {N : Nat} {h : Heap} {p : Nat} {σ : Sta} {v : StV} (hk : HOK h) (q : IsState N h p σ v) {i : Nat} {a b : Int} (hi : σ.hours[i]? = some a) :
    CW CC 158 [.pointer (some ⟨p, 0, none⟩), act2 278 i b] h fun _ h' => IsState N h' p { σ with hours := σ.hours.set i b } v ∧ Gr (v.Mut p) h h' := by
  have rp : rowAt h p = some (σ.cells v) := by unfold rowAt; rw [q.row]; rfl
  have np := row_lt hk rp
  obtain ⟨bh, sp, c, e, hg, hr, li, x1, x2⟩ := q.hours.row hi
  have nb := row_lt hk hr
  refine CW_in Tryz.f158 (by kernel_rfl) (by kernel_rfl) rfl rfl ?_
  simp only [Tryz.f158, act2]
  simp (maxDischargeDepth := 30) only [AA, ↓reduceIte, Nat.reduceLT, Nat.reduceEqDiff, Nat.reduceAdd, Nat.reduceMul, reduceCtorEq, Nat.reduceLeDiff, Int.reduceNe, Int.reduceEq, XH, F158_S2, hk, TA]
  refine W_draw [(true, 0), (true, 1), (true, 2), (true, 3), (true, 4), (true, 5), (true, 6), (true, 7), (true, 8), (true, 9)] (by kernel_rfl) ?_
  simp (maxDischargeDepth := 30) only [AA, ↓reduceIte, Nat.reduceLT, Nat.reduceEqDiff, Nat.reduceAdd, Nat.reduceMul, reduceCtorEq, Nat.reduceLeDiff, Int.reduceNe, Int.reduceEq, AMR, XH, F158_S2, hk, rp, np, ST4, e, li, hr, hg, nb, x1, x2, ints_set, Nat.mul_one, Post_end]
  exact does_end hk q (q.sHours e (l := σ.hours.set i b) (by simp)) (get_lt hk hg) (.inr (.inr (.inr (.inr (.inl (by rw [e]; rfl)))))) _
set_option maxRecDepth 10000 in
theorem does_10 {N : Nat} {h : Heap} {p : Nat} {σ : Sta} {v : StV} (hk : HOK h) (q : IsState N h p σ v) (t : Int) :
    CW CC 158 [.pointer (some ⟨p, 0, none⟩), .iface 279 (.int .i64 t)] h fun _ h' => IsState N h' p { σ with tariff := t } v ∧ Gr (v.Mut p) h h' := by
  have rp : rowAt h p = some (σ.cells v) := by unfold rowAt; rw [q.row]; rfl
  have np := row_lt hk rp
  have hg := q.row
  refine CW_in Tryz.f158 (by kernel_rfl) (by kernel_rfl) rfl rfl ?_
  simp only [Tryz.f158]
  simp (maxDischargeDepth := 30) only [AA, ↓reduceIte, Nat.reduceLT, Nat.reduceEqDiff, Nat.reduceAdd, Nat.reduceMul, reduceCtorEq, Nat.reduceLeDiff, Int.reduceNe, Int.reduceEq, XH, F158_S2, hk, TA, rp, np, hg, ST4, Post_end]
  exact does_end hk q (q.sTariff t) np (.inl rfl) []
set_option maxRecDepth 10000 in
theorem does_11 {N : Nat} {h : Heap} {p : Nat} {σ : Sta} {v : StV} (hk : HOK h) (q : IsState N h p σ v) {i : Nat} {a b : Int} (hi : σ.paid[i]? = some a) (hb : -1000000 ≤ a + b ∧ a + b ≤ 1000000) :
    CW CC 158 [.pointer (some ⟨p, 0, none⟩), act2 281 i b] h fun _ h' => IsState N h' p { σ with paid := σ.paid.set i (a + b) } v ∧ Gr (v.Mut p) h h' := by
  have rp : rowAt h p = some (σ.cells v) := by unfold rowAt; rw [q.row]; rfl
  have np := row_lt hk rp
  obtain ⟨bh, sp, c, e, hg, hr, li, x1, x2⟩ := q.paid.row hi
  have nb := row_lt hk hr
  have w : IntKind.i64.wrap (a + b) = a + b := wrap64 (by omega) (by omega)
  refine CW_in Tryz.f158 (by kernel_rfl) (by kernel_rfl) rfl rfl ?_
  simp only [Tryz.f158, act2]
  simp (maxDischargeDepth := 30) only [AA, ↓reduceIte, Nat.reduceLT, Nat.reduceEqDiff, Nat.reduceAdd, Nat.reduceMul, reduceCtorEq, Nat.reduceLeDiff, Int.reduceNe, Int.reduceEq, XH, F158_S2, hk, TA]
  refine W_draw [(true, 0), (true, 1), (true, 2), (true, 3), (true, 4), (true, 5), (true, 6), (true, 7), (true, 8), (true, 9), (true, 10), (true, 11), (true, 12)] (by kernel_rfl) ?_
  simp (maxDischargeDepth := 30) only [AA, ↓reduceIte, Nat.reduceLT, Nat.reduceEqDiff, Nat.reduceAdd, Nat.reduceMul, reduceCtorEq, Nat.reduceLeDiff, Int.reduceNe, Int.reduceEq, AMR, XH, F158_S2, hk, rp, np, ST4, e, li, hr, hg, nb, x1, x2, ints_set, Nat.mul_one, w, Post_end]
  exact does_end hk q (q.sPaid e (l := σ.paid.set i (a + b)) (by simp)) (get_lt hk hg) (.inr (.inr (.inr (.inr (.inr (by rw [e]; rfl)))))) _
theorem Keys.find {es : List MapEntry} {l : List Int} (h : Keys es l) (x : Int) (i : Nat) : (x ∈ l → ∃ j, aFind (.int .i64 x) es i = some (some (j, .bool true))) ∧ (x ∉ l → aFind (.int .i64 x) es i = some none) := KV.find (K := Value.int .i64) (V := fun _ => .bool true) int_eq i x h
theorem Keys.drop {es : List MapEntry} {l : List Int} (h : Keys es l) {x : Int} (hx : x ∈ l) : ∃ j, aFind (.int .i64 x) es 0 = some (some (j, .bool true)) ∧ Keys (es.eraseIdx j) (l.erase x) := by
  have gen : ∀ (es : List MapEntry) (l : List Int) (i : Nat), Keys es l → x ∈ l → ∃ j, aFind (.int .i64 x) es i = some (some (i + j, .bool true)) ∧ Keys (es.eraseIdx j) (l.erase x) := by
    intro es
    induction es with
    | nil => intro l i h hx; cases l with
      | nil => simp at hx
      | cons _ _ => simp [Keys] at h
    | cons e es ih =>
      intro l i h hx
      cases l with
      | nil => simp at hx
      | cons y l =>
        simp only [Keys, List.map_cons, List.cons.injEq, Prod.mk.injEq] at h
        rw [aFind_cons, h.1.1, int_eq]
        by_cases e1 : x = y
        · subst e1
          exact ⟨0, by simp [h.1.2], by simpa [Keys] using h.2⟩
        · obtain ⟨j, h1, h2⟩ := ih l (i + 1) h.2 (by simpa [e1] using hx)
          refine ⟨j + 1, by simp only [decide_eq_false e1]; rw [h1, show i + 1 + j = i + (j + 1) by omega], ?_⟩
          rw [List.erase_cons, if_neg (by simpa using fun h => e1 h.symm)]
          simp only [Keys, List.eraseIdx_cons_succ, List.map_cons, List.cons.injEq, Prod.mk.injEq]
          exact ⟨h.1, h2⟩
  obtain ⟨j, h1, h2⟩ := gen es l 0 h hx
  exact ⟨j, by rw [h1, Nat.zero_add], h2⟩
theorem O_delete {C : Ctx} {rd : Option Nat} {ops l : List Oper} {k : List Item} {s : FrS} {h : Heap} {dst : Option Tmp} {ty : TypeId} {pos : String} {aft : Array Edge} (t : TypeId) (ts : List TypeId) (x y : Operand) :
    RO C rd ops (⟨dst, .call ⟨.builtin .delete, ⟨[x, y]⟩, ⟨t :: ts⟩⟩, ty, pos, aft, none⟩ :: l) k s h = ROr C rd ops l k (obind (aDelete C t (ev s.tmps x) (ev s.tmps y) h) fun h => some (.ok (s.put dst (mkTup [])) h)) := by
  rw [RO_eff _ rfl]; rfl
theorem O_deleted {C : Ctx} {ops l : List Oper} {k : List Item} {n : Nat} {f : Nat → Value} {D : List Deferred} {p : Option Value} {h : Heap} (v : Value) : ROr C none ops l k (some (.ok (FrS.put ⟨T n f, D, p⟩ none v) h)) = RO C none ops l k ⟨T n f, D, p⟩ h := by
  rw [P_none]; rfl
set_option maxRecDepth 10000 in
theorem does_8 {N : Nat} {h : Heap} {p : Nat} {σ : Sta} {v : StV} (hk : HOK h) (q : IsState N h p σ v) {x : Int} (hx : x ∈ σ.left) :
    CW CC 158 [.pointer (some ⟨p, 0, none⟩), .iface 276 (.int .i64 x)] h fun _ h' => IsState N h' p { σ with left := σ.left.erase x } v ∧ Gr (v.Mut p) h h' := by
  have rp : rowAt h p = some (σ.cells v) := by unfold rowAt; rw [q.row]; rfl
  have np := row_lt hk rp
  obtain ⟨es, c, hg, hes⟩ := q.left
  obtain ⟨j, hf, hd⟩ := hes.drop hx
  have ed : aDelete CC 255 (.map (some v.left)) (.int .i64 x) h = some (h.set v.left (.map (es.eraseIdx j) c)) := by
    unfold aDelete
    rw [und_255]
    simp only [obind_some, mapTypes, show keyFits CC 3 (.int .i64 x) = true by kernel_rfl, guardB_true, mapAt, hg, mapOf, hf, dropEntry]
  refine CW_in Tryz.f158 (by kernel_rfl) (by kernel_rfl) rfl rfl ?_
  simp only [Tryz.f158]
  simp (maxDischargeDepth := 30) only [AA, ↓reduceIte, Nat.reduceLT, Nat.reduceEqDiff, Nat.reduceAdd, Nat.reduceMul, reduceCtorEq, Nat.reduceLeDiff, Int.reduceNe, Int.reduceEq, XH, F158_S2, hk, TA, rp, np, hg, ST4, O_delete, ed, O_deleted, Post_end]
  exact does_end hk q (q.sLeft hd) (get_lt hk hg) (.inr (.inl rfl)) []
end Go.Am

namespace Go.Am
open Go Go.Proofs
def F250_S3 := A2 @fp_257_0 <| A2 @fp_257_4 <| A2 @fp_257_5 <| A2 @fp_38_2 <| A2 @fp_49_3 <| A2 @fp_96_3 <| A2 @ix_22 <| A2 @ix_36 <| A2 @ld_154 <| A2 @ld_22 <| A2 @ld_255 <| A2 @ld_3 <| A2 @ld_36 <| A2 @len_22 <| A2 @part_3 <| A2 @part_96 <| A2 @size_22 <| A2 @size_255 <| A2 @size_3 <| A2 @size_36 <| A2 @size_96 <| A2 @und_22 <| A2 @und_255 <| A2 @und_36 <| A2 @zero_22 <| A2 @zero_255 @zero_36
def F351_S3 := A2 @fp_257_0 <| A2 @fp_257_5 <| A2 @fp_275_0 <| A2 @fp_275_1 <| A2 @fp_38_0 <| A2 @fp_38_2 <| A2 @fp_49_3 <| A2 @fp_96_1 <| A2 @ix_22 <| A2 @ix_36 <| A2 @ld_22 <| A2 @ld_3 <| A2 @ld_36 <| A2 @ld_4 <| A2 @len_22 <| A2 @part_3 <| A2 @part_96 <| A2 @size_22 <| A2 @size_3 <| A2 @size_36 <| A2 @size_96 <| A2 @und_22 <| A2 @und_36 <| A2 @zero_22 @zero_36
theorem must_t (s : ByteArray) (h : Heap) : callF CC (Lim CC) 289 [.bool true, .string s] h = some (.ret (mkTup []) h none) := by
  refine CW.eq (CW_in Tryz.f289 (by kernel_rfl) (by kernel_rfl) rfl rfl ?_)
  simp only [Tryz.f289]
  simp (maxDischargeDepth := 30) only [AA, ↓reduceIte, Nat.reduceLT, Nat.reduceEqDiff, Nat.reduceAdd, Nat.reduceMul, reduceCtorEq, Nat.reduceLeDiff, Int.reduceNe, Int.reduceEq, bld_263, fld_263_0, mi_263, size_263, sp_263_0, zero_263, Post_end]
  exact ⟨rfl, trivial⟩
theorem IsSuite.stroke {P : Nat → Prop} {h : Heap} {u : SuiteV} {S : SuiteD} (q : IsSuite P h u S) {i : Nat} {w : BStroke} (hw : S.bench.strokes[i]? = some w) : ∃ b o sp c row n, u.st = .slice (some ⟨b, o, sp⟩) S.bench.strokes.length c ∧ rowAt h b = some row ∧ i < S.bench.strokes.length ∧
    row[o + i * 5]? = some (.int .i64 w.board) ∧ row[o + i * 5 + 1]? = some (.bool w.round) ∧ row[o + i * 5 + 4]? = some n ∧ LP P h n w.needs ints 1 := by
  obtain ⟨us, q1, q2⟩ := q.st
  have hi := (List.getElem?_eq_some_iff.1 hw).1
  obtain ⟨x, hx⟩ : ∃ x, us[i]? = some x := ⟨_, List.getElem?_eq_getElem (by rw [q2.1]; exact hi)⟩
  have hr := q2.2 i x w hx hw
  rcases q1.1 with ⟨e, _⟩ | ⟨b, o, sp, c, row, e, hr', hy⟩
  · rw [e] at hx; simp at hx
  · have := (hy i x hx).2
    refine ⟨b, o, sp, c, row, x.needs, by rw [e, q2.1], hr', hi, ?_, ?_, ?_, hr.needs⟩
    · have := this 0 (by omega); simpa [StrokeV.cells, hr.board] using this
    · have := this 1 (by omega); simpa [StrokeV.cells, hr.round] using this
    · have := this 4 (by omega); simpa [StrokeV.cells] using this
theorem st_17 (σ : Sta) (v : StV) : (σ.cells v)[17]? = some v.u.st := rfl
theorem st_15 (σ : Sta) (v : StV) : (σ.cells v)[15]? = some (.int .i64 σ.S.bench.app) := rfl
set_option maxRecDepth 10000 in
theorem goes_7 {N : Nat} {h : Heap} {p : Nat} {σ : Sta} {v : StV} (hk : HOK h) (q : IsState N h p σ v) {i : Nat} {a b : Int} {w : BStroke} (hi : σ.hands[i]? = some a) (ha : a < 0) (hb : b ≤ σ.S.bench.app) (hw : σ.S.bench.strokes[i]? = some w) (hr : b = 0 ∨ w.round = false) :
    CX CC 351 [.agg ⟨[.int .i64 i, .int .i64 b]⟩, .pointer (some ⟨p, 0, none⟩)] h (fun _ h' => Fr h h') fun _ _ => False := by
  have rp : rowAt h p = some (σ.cells v) := by unfold rowAt; rw [q.row]; rfl
  have np := row_lt hk rp
  obtain ⟨bh, sp, c, e, hg, hrw, li, x1, x2⟩ := q.hands.row hi
  obtain ⟨bs, os, sps, cs, row, n, e2, hr2, li2, y0, y1, y4, _⟩ := q.suite.stroke hw
  have nb := row_lt hk hrw
  have ns := row_lt hk hr2
  have d1 : decide ((i : Int) < (σ.hands.length : Int)) = true := decide_eq_true (by omega)
  have d2 : decide (b ≤ σ.S.bench.app) = true := decide_eq_true hb
  have d3 : decide (a < 0) = true := decide_eq_true ha
  refine CX_in Tryz.f351 (by kernel_rfl) (by kernel_rfl) rfl rfl ?_
  simp only [Tryz.f351]
  simp (maxDischargeDepth := 30) only [AA, ↓reduceIte, Nat.reduceLT, Nat.reduceEqDiff, Nat.reduceAdd, Nat.reduceMul, reduceCtorEq, Nat.reduceLeDiff, Int.reduceNe, Int.reduceEq, XH, F351_S3, hk]
  refine W_draw [(true, 0), (true, 1), (true, 2), (true, 3), (true, 4), (true, 5), (true, 6), (true, 7), (true, 8), (true, 9), (true, 10), (true, 11), (true, 12), (true, 13), (true, 14), (true, 15), (true, 16), (true, 17), (true, 18), (true, 19)] (by kernel_rfl) ?_
  simp (maxDischargeDepth := 30) only [AA, ↓reduceIte, Nat.reduceLT, Nat.reduceEqDiff, Nat.reduceAdd, Nat.reduceMul, reduceCtorEq, Nat.reduceLeDiff, Int.reduceNe, Int.reduceEq, AMR, XH, F351_S3, hk, rp, np, ST4, st_17, st_15, e, li, hrw, nb, x1, d1, d2, d3, must_t, Nat.mul_one]
  refine W_draw [(true, 0), (true, 1), (true, 2), (true, 3), (true, 4), (true, 5), (true, 6), (true, 7), (true, 8), (true, 9), (true, 10), (true, 11), (true, 12), (true, 13), (true, 14), (true, 15), (true, 16), (true, 17), (true, 18), (true, 19), (true, 20), (true, 21), (true, 22), (true, 23), (true, 24), (true, 25), (true, 26), (true, 27), (true, 28)] (by kernel_rfl) ?_
  simp (maxDischargeDepth := 30) only [AA, ↓reduceIte, Nat.reduceLT, Nat.reduceEqDiff, Nat.reduceAdd, Nat.reduceMul, reduceCtorEq, Nat.reduceLeDiff, Int.reduceNe, Int.reduceEq, AMR, XH, F351_S3, hk, rp, np, ST4, st_17, st_15, e, li, hrw, nb, x1, d3, Nat.mul_one]
  by_cases h0 : b = 0
  · have z : (b == 0) = true := by simp [h0]
    simp (maxDischargeDepth := 30) only [AA, ↓reduceIte, Nat.reduceLT, Nat.reduceEqDiff, Nat.reduceAdd, Nat.reduceMul, reduceCtorEq, Nat.reduceLeDiff, Int.reduceNe, Int.reduceEq, AMR, XH, F351_S3, hk, z, must_t, PostX_end]
    exact ex_fr _ (Fr.refl hk)
  · have z : (b == 0) = false := by simp [h0]
    rw [hr.resolve_left h0] at y1
    simp (maxDischargeDepth := 30) only [AA, ↓reduceIte, Nat.reduceLT, Nat.reduceEqDiff, Nat.reduceAdd, Nat.reduceMul, reduceCtorEq, Nat.reduceLeDiff, Int.reduceNe, Int.reduceEq, AMR, XH, F351_S3, hk, z, rp, np, st_17, e2, li2, hr2, ns, y1, must_t, PostX_end]
    exact ex_fr _ (Fr.refl hk)
theorem natIn_at (lo hi n : Nat) : natIn lo hi (n : Int) = guardB (Nat.ble lo n && Nat.ble n hi) (some n) := rfl
theorem bound_at (hi d : Nat) (k : IntKind) (i : Int) : bound? hi d (some (.int k i)) = natIn 0 hi i := rfl
theorem bound_none (hi d : Nat) : bound? hi d none = some d := rfl
theorem aSlice_sl {C : Ctx} {t e : TypeId} {n : Nat} (hu : C.und t = some (.slice e)) (hs : C.size e = some n) (p : Option Addr) (len cap : Nat) (lo hi : Option Value) : aSlice C t (.slice p len cap) lo hi none = sliceSl n p len cap lo hi := by
  unfold aSlice
  rw [hu]
  show obind (C.size e) _ = _
  rw [hs]; rfl
theorem sl_upto {b n c i : Nat} {sp : Option Nat} (h1 : i ≤ n) (h2 : n ≤ c) (hb : 0 < b) : ∃ sp', aSlice CC 22 (.slice (some ⟨b, 0, sp⟩) n c) none (some (.int .i64 i)) none = some (.slice (some ⟨b, 0, sp'⟩) i c) := by
  obtain ⟨b, rfl⟩ : ∃ k, b = k + 1 := ⟨b - 1, by omega⟩
  rw [aSlice_sl und_22 size_3]
  unfold sliceSl
  rw [Nat.ble_eq_true_of_le h2, guardB_true]
  simp only [bound_none, bound_at, natIn_at, Nat.ble_eq_true_of_le (Nat.zero_le i), Nat.ble_eq_true_of_le (Nat.le_trans h1 h2), Bool.and_self, guardB_true, obind_some, Nat.sub_zero]
  exact ⟨keepSpot 1 sp, by simp only [shiftAddr, Nat.zero_mul, Nat.add_zero]⟩
theorem left_at {H : Heap} {m : Nat} {es : List MapEntry} {c : Nat} {l : List Int} (hes : Keys es l) (x : Int) (hm : H.get m = some (.map es c)) : aLookup CC 255 (.map (some m)) (.int .i64 x) false H = some (.bool (decide (x ∈ l))) := by
  rw [lookup_of und_255 (show keyFits CC 3 (.int .i64 x) = true by kernel_rfl) (show CC.zero 4 = some (.bool false) by kernel_rfl) hm]
  by_cases hx : x ∈ l
  · obtain ⟨j, hj⟩ := (hes.find x 0).1 hx
    rw [hj, decide_eq_true hx]; rfl
  · rw [(hes.find x 0).2 hx, decide_eq_false hx]; rfl
theorem finish_1 {h : Heap} (hk : HOK h) {cp p : Nat} {σ : Sta} {v : StV} {es : List MapEntry} {c : Nat} (hes : Keys es σ.left) (hg : h.get v.left = some (.map es c)) (rp : rowAt h p = some (σ.cells v)) (rc : rowAt h cp = some [.pointer (some ⟨p, 0, none⟩)]) (k : Int) :
    callF CC (Lim CC) 290 [.int .i64 k, .pointer (some ⟨cp, 0, none⟩)] h = some (.ret (.bool (decide (k ∈ σ.left))) h none) := by
  have lk := fun x => left_at hes x hg
  refine CW.eq (CW_in Tryz.f290 (by kernel_rfl) (by kernel_rfl) rfl rfl ?_)
  simp only [Tryz.f290]
  simp (maxDischargeDepth := 30) only [AA, ↓reduceIte, Nat.reduceLT, Nat.reduceEqDiff, Nat.reduceAdd, Nat.reduceMul, reduceCtorEq, Nat.reduceLeDiff, Int.reduceNe, Int.reduceEq, XH, fp_257_4, ld_154, ld_255, size_255, und_255, zero_255, hk, rc, rp, ST4, lk]
set_option maxRecDepth 10000 in
theorem goes_8 {N : Nat} {h : Heap} {p : Nat} {σ : Sta} {v : StV} (hk : HOK h) (hN : 0 < N) (q : IsState N h p σ v) {i : Nat} {a : Int} {w : BStroke} (hx : (i : Int) ∈ σ.left) (hi : σ.hands[i]? = some a) (ha : 0 ≤ a) (hw : σ.S.bench.strokes[i]? = some w) (hn : ∀ k ∈ w.needs, k ∉ σ.left) (hl : ∀ k : Nat, k < i → (k : Int) ∉ σ.left) (n1 : i ≤ 1000) (n2 : w.needs.length ≤ 1000) :
    CX CC 250 [.int .i64 i, .pointer (some ⟨p, 0, none⟩)] h (fun _ h' => Fr h h') fun _ _ => False := by
  have rp : rowAt h p = some (σ.cells v) := by unfold rowAt; rw [q.row]; rfl
  have np := row_lt hk rp
  obtain ⟨bh, sp, c, e, hg, hrw, li, x1, x2⟩ := q.hands.row hi
  obtain ⟨bs, os, sps, cs, row, n, e2, hr2, li2, y0, y1, y4, ln⟩ := q.suite.stroke hw
  have nb := row_lt hk hrw
  have ns := row_lt hk hr2
  obtain ⟨es, cl, hm, hes⟩ := q.left
  have nm := get_lt hk hm
  have lk := fun H x => left_at (H := H) (c := cl) (m := v.left) hes x
  have d1 : decide ((i : Int) ∈ σ.left) = true := decide_eq_true hx
  have d2 : decide (a ≥ 0) = true := decide_eq_true ha
  refine CX_in Tryz.f250 (by kernel_rfl) (by kernel_rfl) rfl rfl ?_
  simp only [Tryz.f250]
  simp (maxDischargeDepth := 30) only [AA, ↓reduceIte, Nat.reduceLT, Nat.reduceEqDiff, Nat.reduceAdd, Nat.reduceMul, reduceCtorEq, Nat.reduceLeDiff, Int.reduceNe, Int.reduceEq, XH, F250_S3, hk, rp, np, ST4, st_17, lk, hm, nm, d1, d2, e, li, hrw, nb, x1, must_t, Nat.mul_one, e2, li2, hr2, ns, y4]
  have f1 := ex_fr [.row [.pointer (some ⟨p, 0, none⟩)] 0 true] (Fr.refl hk)
  refine W_call (some_p f1.ok (fun k => decide (k ∈ σ.left)) (ln.1.fr hk f1) n2 fun h1 f x _ => ⟨h1, ?_, Fr.refl f.ok⟩) ?_
  · rw [V_clo]; exact finish_1 f.ok hes ((f1.trans f).get' hk hm) ((f1.trans f).row' hk rp) (f.row' f1.ok (rx_at0 rfl)) x
  rintro _ h2 ⟨rfl, f2⟩
  have nn : (w.needs.any fun k => decide (k ∈ σ.left)) = false := List.any_eq_false.2 fun k hk => by simpa using hn k hk
  have f02 := f1.trans f2
  have rp2 := f02.row' hk rp
  have rc2 := f2.row' f1.ok (rx_at0 (h := h) (c := [.pointer (some ⟨p, 0, none⟩)]) (s := 0) (o := true) (l := []) rfl)
  obtain ⟨sp', es'⟩ := sl_upto (b := bh) (sp := sp) (Nat.le_of_lt li) (q.hc _ _ _ e) (by have := q.low.2.2 bh (.inr (.inl (by rw [e]; rfl))); omega)
  simp (maxDischargeDepth := 30) only [AA, ↓reduceIte, Nat.reduceLT, Nat.reduceEqDiff, Nat.reduceAdd, Nat.reduceMul, reduceCtorEq, Nat.reduceLeDiff, Int.reduceNe, Int.reduceEq, XH, F250_S3, nn, f2.ok, rp2, rc2, ST4, e, must_t, Option.map, es']
  refine W_for [5, 6, 46, 47, 48, 49, 50, 51, 52, 53, 54, 55, 56, 57, 58, 59, 60, 61, 62, 63, 64, 65, 66, 67, 68, 69, 70] 46 i (fun j g h' => Fr (h.ex [.row [.pointer (some ⟨p, 0, none⟩)] 0 true]) h') (by simp only [upd_at, ↓reduceIte]) f2 ?_ ?_
  · rintro j g h3 hj ag g46 f13 ih
    have f3 := f1.trans f13
    obtain ⟨y, gy⟩ : ∃ y, σ.hands[j]? = some y := ⟨_, List.getElem?_eq_getElem (by omega)⟩
    have rp3 := f3.row' hk rp
    have rc3 := f13.row' f1.ok (rx_at0 (h := h) (c := [.pointer (some ⟨p, 0, none⟩)]) (s := 0) (o := true) (l := []) rfl)
    have hr3 := f3.row' hk hrw
    have hm3 := f3.get' hk hm
    have c2 := ints_at gy
    have kn : decide ((j : Int) ∈ σ.left) = false := decide_eq_false (hl j hj)
    cases hy : (y != a) with
    | true =>
      simp (maxDischargeDepth := 30) only [AA, ↓reduceIte, Nat.reduceLT, Nat.reduceEqDiff, Nat.reduceAdd, Nat.reduceMul, reduceCtorEq, Nat.reduceLeDiff, Int.reduceNe, Int.reduceEq, XH, F250_S3, ag.r, NE, g46, f13.ok, lt_t hj, hj, hr3, c2, rp3, rc3, ST4, e, li, x1, hy, must_t, Nat.mul_one, Nat.zero_add, i_next hj n1]
      exact ih _ _ (by simp only [AG, Nat.reduceEqDiff, ag]) (by simp only [upd_at, ↓reduceIte]) f13
    | false =>
      simp (maxDischargeDepth := 30) only [AA, ↓reduceIte, Nat.reduceLT, Nat.reduceEqDiff, Nat.reduceAdd, Nat.reduceMul, reduceCtorEq, Nat.reduceLeDiff, Int.reduceNe, Int.reduceEq, XH, F250_S3, ag.r, NE, g46, f13.ok, lt_t hj, hj, hr3, c2, rp3, rc3, ST4, e, li, x1, hy, lk, hm3, kn, must_t, Nat.mul_one, Nat.zero_add, i_next hj n1]
      exact ih _ _ (by simp only [AG, Nat.reduceEqDiff, ag]) (by simp only [upd_at, ↓reduceIte]) f13
  · rintro g h3 ag g46 f13
    simp (maxDischargeDepth := 30) only [AA, ↓reduceIte, Nat.reduceLT, Nat.reduceEqDiff, Nat.reduceAdd, Nat.reduceMul, reduceCtorEq, Nat.reduceLeDiff, Int.reduceNe, Int.reduceEq, XH, F250_S3, ag.r, NE, g46, f13.ok, lt_f, PostX_end]
    exact f1.trans f13
set_option maxRecDepth 10000 in
theorem goes_8n {N : Nat} {h : Heap} {p : Nat} {σ : Sta} {v : StV} (hk : HOK h) (q : IsState N h p σ v) {x : Int} (hx : x ∉ σ.left) :
    CX CC 250 [.int .i64 x, .pointer (some ⟨p, 0, none⟩)] h (fun _ _ => False) fun e h' => refused e ∧ Fr h h' := by
  have rp : rowAt h p = some (σ.cells v) := by unfold rowAt; rw [q.row]; rfl
  have np := row_lt hk rp
  obtain ⟨es, cl, hm, hes⟩ := q.left
  have nm := get_lt hk hm
  have lk := fun H x => left_at (H := H) (c := cl) (m := v.left) hes x
  have d1 : decide (x ∈ σ.left) = false := decide_eq_false hx
  have f1 := ex_fr [.row [.pointer (some ⟨p, 0, none⟩)] 0 true] (Fr.refl hk)
  refine CX_in Tryz.f250 (by kernel_rfl) (by kernel_rfl) rfl rfl ?_
  simp only [Tryz.f250]
  simp (maxDischargeDepth := 30) only [AA, ↓reduceIte, Nat.reduceLT, Nat.reduceEqDiff, Nat.reduceAdd, Nat.reduceMul, reduceCtorEq, Nat.reduceLeDiff, Int.reduceNe, Int.reduceEq, XH, F250_S3, hk, rp, np, ST4, lk, hm, nm, d1]
  refine W_callX (must_p _ _ f1.ok) ?_ ?_
  · rintro _ h2 ⟨hb, _⟩
    cases hb
  · rintro e h2 ⟨_, hr, f2⟩
    simp only [PostX_panic]
    exact ⟨hr, f1.trans f2⟩
theorem cell_at {h : Heap} {s i j b o c n : Nat} {sp : Option Nat} {row : List Value} {x : Int} (hi : i < n) (hr : rowAt h b = some row) (hx : row[o + i * s + j]? = some (.int .i64 x)) : numAt h s i j (.slice (some ⟨b, o, sp⟩) n c) = some x := by
  unfold numAt cellAt
  simp only [Nat.ble_eq_true_of_le (Nat.succ_le_of_lt hi), guardB_true, hr, obind_some, lget_eq, hx, i64Of]
theorem IsSuite.board {P : Nat → Prop} {h : Heap} {u : SuiteV} {S : SuiteD} (q : IsSuite P h u S) {i : Nat} {w : Board} (hw : S.prices.boards[i]? = some w) : ∃ b o sp c row, u.bd = .slice (some ⟨b, o, sp⟩) S.prices.boards.length c ∧ rowAt h b = some row ∧ i < S.prices.boards.length ∧
    row[o + i * 5 + 2]? = some (.int .i64 w.lo) ∧ row[o + i * 5 + 3]? = some (.int .i64 w.hi) := by
  rcases q.bd.1 with ⟨e, _⟩ | ⟨b, o, sp, c, row, e, hr', hy⟩
  · rw [e] at hw; simp at hw
  · have := (hy i w hw).2
    refine ⟨b, o, sp, c, row, e, hr', (List.getElem?_eq_some_iff.1 hw).1, ?_, ?_⟩
    · have := this 2 (by omega); simpa [Board.cells] using this
    · have := this 3 (by omega); simpa [Board.cells] using this
theorem lg_33 (σ : Sta) (v : StV) : lget (σ.cells v) (0 + 33) = some v.u.bd := rfl
theorem lg_17 (σ : Sta) (v : StV) : lget (σ.cells v) (0 + 17) = some v.u.st := rfl
theorem lg_38 (σ : Sta) (v : StV) : lget (σ.cells v) (0 + 38) = some (.map (some v.left)) := rfl
theorem lg_40 (σ : Sta) (v : StV) : lget (σ.cells v) (0 + 40) = some v.hours := rfl
theorem goes_9 {N : Nat} {h : Heap} {p : Nat} {σ : Sta} {v : StV} (q : IsState N h p σ v) {i : Nat} {a n : Int} {w : Board} (hi : σ.hours[i]? = some a) (ha : a < 0) (hw : σ.S.prices.boards[i]? = some w) (hn : w.lo ≤ n ∧ n ≤ w.hi) (hl : σ.left = []) :
    callF CC (Lim CC) 352 [.agg ⟨[.int .i64 i, .int .i64 n]⟩, .pointer (some ⟨p, 0, none⟩)] h = some (.ret (mkTup []) h none) := by
  have rp : rowAt h p = some (σ.cells v) := by unfold rowAt; rw [q.row]; rfl
  obtain ⟨bh, sp, c, e, hg, hrw, li, x1, x2⟩ := q.hours.row hi
  obtain ⟨bs, os, sps, cs, row, e2, hr2, li2, y2, y3⟩ := q.suite.board hw
  obtain ⟨es, cl, hm, hes⟩ := q.left
  obtain rfl : es = [] := by
    rw [hl] at hes
    cases es with
    | nil => rfl
    | cons _ _ => simp [Keys] at hes
  have n1 : numAt h 1 i 0 v.hours = some a := by rw [e]; exact cell_at li hrw (by simpa using x1)
  have n2 : numAt h 5 i 2 v.u.bd = some w.lo := by rw [e2]; exact cell_at li2 hr2 y2
  have n3 : numAt h 5 i 3 v.u.bd = some w.hi := by rw [e2]; exact cell_at li2 hr2 y3
  have so : sliceOf v.hours = some (some ⟨bh, 0, sp⟩, σ.hours.length, c) := by rw [e]; rfl
  have d1 : decide (a < 0) = true := decide_eq_true ha
  have d2 : decide (w.lo ≤ n) = true := decide_eq_true hn.1
  have d3 : decide (n ≤ w.hi) = true := decide_eq_true hn.2
  refine spec_call (show CC.A 352 = some noteSpec by kernel_rfl) ?_
  simp only [noteSpec, twoOf, obind_some, rp, noteAt, lg_40, so, n1, d1, noteMore, lg_33, n2, n3, d2, d3, lg_17, lg_38, mapAt, hm, mapOf, Nat.ble_eq_true_of_le (Nat.succ_le_of_lt li), show natOfI (i : Int) = some i from rfl, Bool.and_self, stampsOK, noneOn, lrec_nil, guardB_true, noteLast]
set_option maxRecDepth 10000 in
theorem goes_10 {N : Nat} {h : Heap} {p : Nat} {σ : Sta} {v : StV} (hk : HOK h) (q : IsState N h p σ v) {t : Int} (h1 : t < σ.S.prices.tars.length) (h2 : σ.tariff < 0) :
    CX CC 353 [.int .i64 t, .pointer (some ⟨p, 0, none⟩)] h (fun _ h' => Fr h h') fun _ _ => False := by
  have rp : rowAt h p = some (σ.cells v) := by unfold rowAt; rw [q.row]; rfl
  obtain ⟨pt, ct, et⟩ := q.suite.tr.1.len
  have g34 : (σ.cells v)[34]? = some v.u.tr := rfl
  have d1 : decide (t < (σ.S.prices.tars.length : Int)) = true := decide_eq_true h1
  have d2 : decide (σ.tariff < 0) = true := decide_eq_true h2
  refine CX_in Tryz.f353 (by kernel_rfl) (by kernel_rfl) rfl rfl ?_
  simp only [Tryz.f353]
  simp (maxDischargeDepth := 30) only [AA, ↓reduceIte, Nat.reduceLT, Nat.reduceEqDiff, Nat.reduceAdd, Nat.reduceMul, reduceCtorEq, Nat.reduceLeDiff, Int.reduceNe, Int.reduceEq, XH, fp_257_0, fp_257_7, fp_47_2, fp_49_6, ld_3, ld_45, len_45, hk, rp, g34, ST4, et, d1, d2, must_t, PostX_end]
  exact Fr.refl hk
end Go.Am
