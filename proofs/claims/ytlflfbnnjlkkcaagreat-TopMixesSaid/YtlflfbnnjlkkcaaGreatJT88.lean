/- Parts T88, T89, T90, T91 of the abstract machine over this program, joined: what each part says stands at its head. -/
import Derived.Test.YtlflfbnnjlkkcaaGreatJT85
set_option linter.unusedSimpArgs false
set_option linter.unusedVariables false
/- The abstract machine over this program: acts of mixtures. -/
namespace Go.Am
open Go Go.Proofs
theorem F158_T88 : type_of% (And.intro @fp_257_0 <| And.intro @fp_257_1 <| And.intro @fp_257_2 <| And.intro @fp_257_3 <| And.intro @fp_257_4 <| And.intro @fp_257_5 <| And.intro @fp_257_6 <| And.intro @fp_257_7 <| And.intro @fp_257_8 <| And.intro @fp_273_0 <| And.intro @fp_273_1 <| And.intro @fp_275_0 <| And.intro @fp_275_1 <| And.intro @fp_278_0 <| And.intro @fp_278_1 <| And.intro @fp_281_0 <| And.intro @fp_281_1 <| And.intro @fp_28_6 <| And.intro @fp_49_0 <| And.intro @fp_49_1 <| And.intro @fp_49_2 <| And.intro @fp_49_5 <| And.intro @ix_22 <| And.intro @ix_271 <| And.intro @ld_22 <| And.intro @ld_255 <| And.intro @ld_269 <| And.intro @ld_3 <| And.intro @ld_32 <| And.intro @len_271 <| And.intro @part_3 <| And.intro @size_22 <| And.intro @size_267 <| And.intro @size_269 <| And.intro @size_271 <| And.intro @size_273 <| And.intro @size_275 <| And.intro @size_278 <| And.intro @size_281 <| And.intro @size_3 <| And.intro @size_32 <| And.intro @size_35 <| And.intro @und_22 <| And.intro @und_271 <| And.intro @und_3 <| And.intro @zero_22 <| And.intro @zero_267 <| And.intro @zero_269 <| And.intro @zero_271 <| And.intro @zero_273 <| And.intro @zero_275 <| And.intro @zero_278 <| And.intro @zero_281 <| And.intro @zero_3 <| And.intro @zero_32 @zero_35) := And.intro @fp_257_0 <| And.intro @fp_257_1 <| And.intro @fp_257_2 <| And.intro @fp_257_3 <| And.intro @fp_257_4 <| And.intro @fp_257_5 <| And.intro @fp_257_6 <| And.intro @fp_257_7 <| And.intro @fp_257_8 <| And.intro @fp_273_0 <| And.intro @fp_273_1 <| And.intro @fp_275_0 <| And.intro @fp_275_1 <| And.intro @fp_278_0 <| And.intro @fp_278_1 <| And.intro @fp_281_0 <| And.intro @fp_281_1 <| And.intro @fp_28_6 <| And.intro @fp_49_0 <| And.intro @fp_49_1 <| And.intro @fp_49_2 <| And.intro @fp_49_5 <| And.intro @ix_22 <| And.intro @ix_271 <| And.intro @ld_22 <| And.intro @ld_255 <| And.intro @ld_269 <| And.intro @ld_3 <| And.intro @ld_32 <| And.intro @len_271 <| And.intro @part_3 <| And.intro @size_22 <| And.intro @size_267 <| And.intro @size_269 <| And.intro @size_271 <| And.intro @size_273 <| And.intro @size_275 <| And.intro @size_278 <| And.intro @size_281 <| And.intro @size_3 <| And.intro @size_32 <| And.intro @size_35 <| And.intro @und_22 <| And.intro @und_271 <| And.intro @und_3 <| And.intro @zero_22 <| And.intro @zero_267 <| And.intro @zero_269 <| And.intro @zero_271 <| And.intro @zero_273 <| And.intro @zero_275 <| And.intro @zero_278 <| And.intro @zero_281 <| And.intro @zero_3 <| And.intro @zero_32 @zero_35
theorem acted_mix {h : Heap} (hk : HOK h) {w : Value} {l : List Int} (hw : LS h w l ints 1) :
    CW CC 66 [.agg ⟨[.int .i64 5, w]⟩] h fun r h' => r = .iface 271 w ∧ Fr h h' := by
  obtain ⟨q, c, rfl⟩ := hw.len
  refine CW_in Tryz.f66 (by kernel_rfl) (by kernel_rfl) rfl rfl ?_
  simp only [Tryz.f66]
  have e1 : ((5 : Int) == 1) = false := rfl
  have e2 : ((5 : Int) == 2) = false := rfl
  have e3 : ((5 : Int) == 3) = false := rfl
  have e4 : ((5 : Int) == 4) = false := rfl
  have e5 : ((5 : Int) == 5) = true := rfl
  simp (maxDischargeDepth := 30) only [AMS, AMH, ↓reduceIte, Nat.reduceLT, Nat.reduceEqDiff, Nat.reduceAdd, Nat.reduceMul, reduceCtorEq, decide_true, decide_false, Nat.reduceLeDiff, Int.reduceNe, Int.reduceEq, ne_eq, not_false_eq_true, and_self, XH, bld_25, bld_267, bld_269, bld_273, bld_275, bld_278, bld_281, bld_283, fld_25_0, fld_25_1, fld_269_0, fld_269_1, fld_273_0, fld_273_1, fld_275_0, fld_275_1, fld_278_0, fld_278_1, fld_281_0, fld_281_1, fp_80_0, fp_80_1, ix_22, ix_270, ix_271, ld_22, ld_3, ld_77, mi_265, mi_267, mi_269, mi_270, mi_271, mi_273, mi_275, mi_276, mi_278, mi_279, mi_281, mi_282, mi_283, part_3, size_22, size_25, size_265, size_267, size_269, size_270, size_271, size_273, size_275, size_276, size_278, size_279, size_281, size_282, size_283, size_3, sp_25_0, sp_25_1, sp_269_0, sp_269_1, sp_273_0, sp_273_1, sp_275_0, sp_275_1, sp_278_0, sp_278_1, sp_281_0, sp_281_1, und_22, und_265, und_270, und_271, und_276, und_279, und_282, zero_22, zero_25, zero_265, zero_267, zero_269, zero_270, zero_271, zero_273, zero_275, zero_276, zero_278, zero_279, zero_281, zero_282, zero_283, hk, e1, e2, e3, e4, e5]
  exact ⟨trivial, ex_fr _ (Fr.refl hk)⟩


theorem ta_wait (w : Value) : aTypeAssert CC (.iface 271 w) 265 true = some (.tuple ⟨[.int .i64 0, .bool false]⟩) := by kernel_rfl
theorem ta_layer (w : Value) : aTypeAssert CC (.iface 271 w) 267 true = some (.tuple ⟨[.agg ⟨[]⟩, .bool false]⟩) := by kernel_rfl
theorem ta_dry (w : Value) : aTypeAssert CC (.iface 271 w) 269 true = some (.tuple ⟨[.agg ⟨[.int .i64 0, .int .i64 0, .int .i64 0]⟩, .bool false]⟩) := by kernel_rfl
theorem ta_spot (w : Value) : aTypeAssert CC (.iface 271 w) 270 true = some (.tuple ⟨[.slice none 0 0, .bool false]⟩) := by kernel_rfl
theorem ta_mix (w : Value) : aTypeAssert CC (.iface 271 w) 271 true = some (.tuple ⟨[w, .bool true]⟩) := by kernel_rfl
/-- what is left of some numbers, after so many of them -/
def subN (a b : List Int) (i : Nat) : List Int := (List.range a.length).map fun j => if j < i then a.getD j 0 - b.getD j 0 else a.getD j 0
theorem subN_len (a b : List Int) (i : Nat) : (subN a b i).length = a.length := by simp [subN]
theorem subN_get {a : List Int} (b : List Int) (i : Nat) {j : Nat} {x : Int} (hx : a[j]? = some x) : (subN a b i)[j]? = some (if j < i then x - b.getD j 0 else x) := by
  unfold subN
  rw [List.getElem?_map, List.getElem?_range (List.getElem?_eq_some_iff.1 hx).1]
  simp [List.getD_eq_getElem?_getD, hx]
theorem ext_some {a b : List Int} (hl : a.length = b.length) (h : ∀ (j : Nat) x, a[j]? = some x → b[j]? = some x) : a = b := by
  refine List.ext_getElem? fun j => ?_
  cases e : a[j]? with
  | some x => exact (h j x e).symm
  | none => exact (List.getElem?_eq_none (by have := List.getElem?_eq_none_iff.1 e; omega)).symm
theorem subN_zero (a b : List Int) : subN a b 0 = a := (ext_some (subN_len _ _ _).symm fun j x hx => by rw [subN_get b 0 hx]; simp).symm
theorem subN_at {a b : List Int} {i : Nat} {x : Int} (hx : a[i]? = some x) : (subN a b i)[i]? = some x := by rw [subN_get b i hx]; simp
theorem subN_step {a b : List Int} {i : Nat} {x y : Int} (hx : a[i]? = some x) (hy : b[i]? = some y) : (subN a b i).set i (x - y) = subN a b (i + 1) := by
  refine (ext_some (by simp [subN_len]) fun j z hz => ?_).symm
  have hj := (List.getElem?_eq_some_iff.1 hz).1
  rw [subN_len] at hj
  obtain ⟨w, hw⟩ : ∃ w, a[j]? = some w := ⟨_, List.getElem?_eq_getElem hj⟩
  rw [subN_get b _ hw] at hz
  rw [List.getElem?_set]
  by_cases e : i = j
  · subst e
    rw [hx] at hw; simp at hw; subst hw
    rw [if_pos rfl, if_pos (by rw [subN_len]; exact hj), ← hz]
    simp [List.getD_eq_getElem?_getD, hy]
  · rw [if_neg e, subN_get b i hw, ← hz]
    simp [show (j < i) = (j < i + 1) by simp; omega]
def subL (a b : List Int) : List Int := subN a b a.length
theorem ints_at {xs : List Int} {i : Nat} {x : Int} (hx : xs[i]? = some x) : (xs.flatMap ints)[i]? = some (.int .i64 x) := by
  have e : ∀ l : List Int, l.flatMap ints = l.map (Value.int .i64) := fun l => by induction l with
    | nil => rfl
    | cons a l ih => rw [List.flatMap_cons, ih]; rfl
  rw [e, List.getElem?_map, hx]; rfl
theorem ints_set (xs : List Int) (i : Nat) (y : Int) : (xs.flatMap ints).set i (.int .i64 y) = (xs.set i y).flatMap ints := by
  have e : ∀ l : List Int, l.flatMap ints = l.map (Value.int .i64) := fun l => by induction l with
    | nil => rfl
    | cons a l ih => rw [List.flatMap_cons, ih]; rfl
  rw [e, e, List.map_set]
/-- rows of a state that acts may write -/
def StV.Mut (v : StV) (p b : Nat) : Prop := b = p ∨ b = v.left ∨ blkOf v.u.sk = some b ∨ blkOf v.hands = some b ∨ blkOf v.hours = some b ∨ blkOf v.paid = some b
theorem IsState.mut_low {N : Nat} {h : Heap} {p : Nat} {σ : Sta} {v : StV} (q : IsState N h p σ v) {b : Nat} (hb : v.Mut p b) : N ≤ b := by
  rcases hb with rfl | rfl | hb | hb | hb | hb
  · exact q.low.1
  · exact q.low.2.1
  · exact q.low.2.2 b (.inl hb)
  · exact q.low.2.2 b (.inr (.inl hb))
  · exact q.low.2.2 b (.inr (.inr (.inl hb)))
  · exact q.low.2.2 b (.inr (.inr (.inr hb)))
set_option maxRecDepth 10000 in
theorem does_mix {N : Nat} {h : Heap} {p : Nat} {σ : Sta} {v : StV} (hk : HOK h) (q : IsState N h p σ v) {w : Value} {l : List Int} (hw : LS h w l ints 1) (hN : ∀ b, blkOf w = some b → b < N) (hl : l.length = σ.S.stock.length) (hn : l.length ≤ 1000) (hb1 : ∀ x ∈ l, 0 ≤ x ∧ x ≤ 1000000) (hb2 : ∀ x ∈ σ.S.stock, -1000000000 ≤ x ∧ x ≤ 1000000000) :
    CW CC 158 [.pointer (some ⟨p, 0, none⟩), .iface 271 w] h fun _ h' => IsState N h' p { σ with S := { σ.S with stock := subL σ.S.stock l } } v ∧ Gr (v.Mut p) h h' := by
  obtain ⟨pw, cw, rfl, hx⟩ := hw.open
  have rp : rowAt h p = some (σ.cells v) := by unfold rowAt; rw [q.row]; rfl
  refine CW_in Tryz.f158 (by kernel_rfl) (by kernel_rfl) rfl rfl ?_
  simp only [Tryz.f158]
  simp (maxDischargeDepth := 30) only [AMS, AMH, ↓reduceIte, Nat.reduceLT, Nat.reduceEqDiff, Nat.reduceAdd, Nat.reduceMul, reduceCtorEq, decide_true, decide_false, Nat.reduceLeDiff, Int.reduceNe, Int.reduceEq, ne_eq, not_false_eq_true, and_self, XH, F158_T88, hk, ta_wait, ta_layer, ta_dry, ta_spot, ta_mix]
  refine W_for [13, 14, 86, 87, 88, 89, 90, 91, 92, 93, 94, 95, 96, 97, 98, 99, 100, 101, 102] 86 l.length (fun i g h' => IsState N h' p { σ with S := { σ.S with stock := subN σ.S.stock l i } } v ∧ Gr (v.Mut p) h h')
    (by simp only [upd_at, ↓reduceIte]) ⟨by rw [subN_zero]; exact q, Gr.refl hk⟩ ?_ ?_
  · rintro i g h2 hi ag g86 ⟨q2, gr⟩ ih
    have rp2 : rowAt h2 p = some (σ.cells v) := by unfold rowAt; rw [q2.row]; rfl
    obtain ⟨x, gx⟩ : ∃ x, l[i]? = some x := ⟨_, List.getElem?_eq_getElem hi⟩
    obtain ⟨y, gy⟩ : ∃ y, σ.S.stock[i]? = some y := ⟨_, List.getElem?_eq_getElem (by omega)⟩
    rcases hx with hx | ⟨b, o, sp, row, rfl, hr, hx⟩
    · rw [hx] at hi; simp at hi
    have c1 : row[o + i]? = some (.int .i64 x) := by simpa [ints] using (hx _ x gx).2 0 (by omega)
    have hr2 := gr.row' hk (fun hm => by have := q.mut_low hm; have := hN b rfl; omega) hr
    rcases q2.sk with ⟨e1, _⟩ | ⟨bs, sps, cs, e2, hg⟩
    · have := congrArg List.length e1
      rw [subN_len, List.length_nil] at this
      omega
    have c2 : ((subN σ.S.stock l i).flatMap ints)[i]? = some (.int .i64 y) := ints_at (subN_at gy)
    have hrs : rowAt h2 bs = some ((subN σ.S.stock l i).flatMap ints) := by unfold rowAt; rw [hg]; rfl
    have ll : i < ((subN σ.S.stock l i).flatMap ints).length := by rw [flat_len ints_len, subN_len]; omega
    have b1 := hb1 x (List.mem_of_getElem? gx)
    have b2 := hb2 y (List.mem_of_getElem? gy)
    have w1 : IntKind.i64.wrap (y - x) = y - x := wrap64 (by omega) (by omega)
    have il : i < (subN σ.S.stock l i).length := by rw [subN_len]; omega
    have hg' : h2.get bs = some (.row ((subN σ.S.stock l i).flatMap ints) 1 true) := hg
    have e2' : v.u.sk = .slice (some ⟨bs, 0, sps⟩) (subN σ.S.stock l i).length cs := e2
    simp (maxDischargeDepth := 30) only [AMS, AMH, ↓reduceIte, Nat.reduceLT, Nat.reduceEqDiff, Nat.reduceAdd, Nat.reduceMul, reduceCtorEq, decide_true, decide_false, Nat.reduceLeDiff, Int.reduceNe, Int.reduceEq, ne_eq, not_false_eq_true, and_self, XH, F158_T88, ag.r, NE, g86, gr.ok, lt_t hi, hi, hr2, c1, Nat.mul_one, rp2, stc_sk, e2', il, hrs, c2, w1, hg', ll, ints_set, subN_step gy gx, i_next hi hn]
    refine ih _ _ (by simp only [AG, Nat.reduceEqDiff, ag]) (by simp only [upd_at, ↓reduceIte]) ⟨q2.stock e2' hg' (by rw [subN_len, subN_len]), gr.trans ⟨gr.ok.set (get_lt gr.ok hg') _, by simp, fun j hj hn => Heap.get_set_ne _ _ ?_⟩⟩
    rintro rfl
    exact hn (.inr (.inr (.inl (by rw [e2']; rfl))))
  · rintro g h2 ag g86 ⟨q2, gr⟩
    simp (maxDischargeDepth := 30) only [AMS, AMH, ↓reduceIte, Nat.reduceLT, Nat.reduceEqDiff, Nat.reduceAdd, Nat.reduceMul, reduceCtorEq, decide_true, decide_false, Nat.reduceLeDiff, Int.reduceNe, Int.reduceEq, ne_eq, not_false_eq_true, and_self, XH, F158_T88, ag.r, NE, g86, gr.ok, lt_f, Post_end]
    rw [hl] at q2
    exact ⟨q2, gr⟩
end Go.Am

/- The abstract machine over this program: desks in memory; which entries stand. -/
namespace Go.Am
open Go Go.Proofs
theorem F238_T89 : type_of% (And.intro @bs_22 <| And.intro @fp_110_2 <| And.intro @fp_80_0 <| And.intro @ix_108 <| And.intro @ix_22 <| And.intro @ld_108 <| And.intro @ld_3 <| And.intro @ld_52 <| And.intro @ld_77 <| And.intro @ld_80 <| And.intro @len_108 <| And.intro @len_22 <| And.intro @part_3 <| And.intro @part_80 <| And.intro @size_108 <| And.intro @size_22 <| And.intro @size_3 <| And.intro @size_80 <| And.intro @und_108 <| And.intro @und_22 <| And.intro @zero_108 <| And.intro @zero_22 @zero_80) := And.intro @bs_22 <| And.intro @fp_110_2 <| And.intro @fp_80_0 <| And.intro @ix_108 <| And.intro @ix_22 <| And.intro @ld_108 <| And.intro @ld_3 <| And.intro @ld_52 <| And.intro @ld_77 <| And.intro @ld_80 <| And.intro @len_108 <| And.intro @len_22 <| And.intro @part_3 <| And.intro @part_80 <| And.intro @size_108 <| And.intro @size_22 <| And.intro @size_3 <| And.intro @size_80 <| And.intro @und_108 <| And.intro @und_22 <| And.intro @zero_108 <| And.intro @zero_22 @zero_80
theorem LR.get' {α β : Type} {R : Heap → α → β → Prop} {h : Heap} {us : List α} {ws : List β} (q : LR R h us ws) {i : Nat} {u : α} (hu : us[i]? = some u) : ∃ w, ws[i]? = some w ∧ R h u w := by
  have hi : i < ws.length := by rw [← q.1]; exact (List.getElem?_eq_some_iff.1 hu).1
  exact ⟨ws[i], List.getElem?_eq_getElem hi, q.2 i u _ hu (List.getElem?_eq_getElem hi)⟩
structure EntryV where
  kind : Int
  nums : Value
def EntryV.cells (x : EntryV) : List Value := [.int .i64 x.kind, x.nums]
theorem EntryV.len (x : EntryV) : x.cells.length = 2 := rfl
structure Entry where
  kind : Int
  nums : List Int
def IsEntry (P : Nat → Prop) (h : Heap) (u : EntryV) (e : Entry) : Prop := u.kind = e.kind ∧ LP P h u.nums e.nums ints 1
structure DeskV where
  u : SuiteV
  ev : Value
  evs : List EntryV
def SuiteD.desk (S : SuiteD) (w : DeskV) : List Value := .bool true :: (S.cells w.u ++ [w.ev])
def DeskV.Fix (w : DeskV) (N d b : Nat) : Prop := N ≤ b ∧ b ≠ d ∧ blkOf w.ev ≠ some b
structure IsDesk (N : Nat) (h : Heap) (d : Nat) (S : SuiteD) (E : List Entry) (w : DeskV) : Prop where
  row : h.get d = some (.row (S.desk w) 0 true)
  low : N ≤ d
  suite : IsSuite (w.Fix N d) h w.u S
  sk : LP (w.Fix N d) h w.u.sk S.stock ints 1
  ent : SL N h w.ev (w.evs.flatMap EntryV.cells) 2 w.evs.length
  nums : LR (IsEntry (w.Fix N d)) h w.evs E
theorem IsDesk.fr {N : Nat} {h h' : Heap} {d : Nat} {S : SuiteD} {E : List Entry} {w : DeskV} (q : IsDesk N h d S E w) (hk : HOK h) (f : Fr h h') : IsDesk N h' d S E w :=
  ⟨f.get' hk q.row, q.low, q.suite.fr hk f, q.sk.fr hk f, q.ent.fr hk f, q.nums.map fun _ _ hu => ⟨hu.1, hu.2.fr hk f⟩⟩
theorem sd_0 (S : SuiteD) (w : DeskV) : (S.desk w)[0]? = some (.bool true) := rfl
theorem sd_su (S : SuiteD) (w : DeskV) : take? (S.desk w) 1 35 = some (S.cells w.u) := rfl
theorem sd_ev (S : SuiteD) (w : DeskV) : (S.desk w)[36]? = some w.ev := rfl
/-- the body of the loop over the entries that stand -/
structure EatsN (J : (Nat → Prop) → Nat → Heap → Prop) (l : Nat) (hs : Heap) (evs : List EntryV) : Prop where
  low : ∀ F i h, J F i h → ∀ b, F b → hs.next ≤ b ∧ b < h.next
  stay : ∀ F i h h', J F i h → HOK h → Fr h h' → J F i h'
  round : ∀ F i h u, HOK h → 0 < h.next → Fr hs h → J F i h → evs[i]? = some u → ∃ h', yieldTo (Lim CC) l [.int .i64 i, .agg ⟨u.cells⟩] h = some (.ret (.bool true) h' none) ∧ Gr F h h' ∧ ∃ F', (∀ b, F' b → F b ∨ h.next ≤ b) ∧ J F' (i + 1) h'
def upto (n : Nat) : List Int := (List.range n).map fun (i : Nat) => (i : Int)
theorem upto_len (n : Nat) : (upto n).length = n := by simp [upto]
theorem upto_succ (n : Nat) : upto (n + 1) = upto n ++ [(n : Int)] := by simp [upto, List.range_succ]
theorem upto_at {n i : Nat} (hi : i < n) : (upto n)[i]? = some (i : Int) := by
  unfold upto; rw [List.getElem?_map, List.getElem?_range hi]; rfl
set_option maxRecDepth 10000 in
set_option maxHeartbeats 1000000 in
theorem standing1 {hs h0 : Heap} (hks : HOK hs) (f0 : Fr hs h0) (hp : 0 < h0.next) {l N d c1 : Nat} {S : SuiteD} {E : List Entry} {w : DeskV} {J : (Nat → Prop) → Nat → Heap → Prop} {F : Nat → Prop} (X : EatsN J l hs w.evs) (D : IsDesk N hs d S E w)
    (hc : h0.get c1 = some (.row [.pointer (some ⟨d, 0, none⟩)] 0 true)) (hF : ¬ F c1) (hu : ∀ e ∈ w.evs, e.kind ≠ 13) (hn : w.evs.length ≤ 1000) (h1 : J F 0 h0) :
    CW CC 238 [.func (.yield l) ⟨[]⟩ ⟨[]⟩, .pointer (some ⟨c1, 0, none⟩)] h0 fun _ h' => (∃ F', J F' w.evs.length h') ∧ Fr hs h' := by
  have hk := f0.ok
  have rc : rowAt h0 c1 = some [.pointer (some ⟨d, 0, none⟩)] := by unfold rowAt; rw [hc]; rfl
  have nc := row_lt hk rc
  have rd : rowAt h0 d = some (S.desk w) := by unfold rowAt; rw [f0.get' hks D.row]; rfl
  have nd := get_lt hks D.row
  have nd0 := row_lt hk rd
  obtain ⟨pe, ce, eev⟩ := D.ent.value
  have ents := (D.ent.fr hks f0)
  have lse := SL.ls EntryV.len ents
  rw [eev] at lse
  refine CW_in Tryz.f238 (by kernel_rfl) (by kernel_rfl) rfl rfl ?_
  simp only [Tryz.f238]
  simp (maxDischargeDepth := 30) only [AMS, AMH, ↓reduceIte, Nat.reduceLT, Nat.reduceEqDiff, Nat.reduceAdd, Nat.reduceMul, reduceCtorEq, decide_true, decide_false, Nat.reduceLeDiff, Int.reduceNe, Int.reduceEq, ne_eq, not_false_eq_true, and_self, XH, F238_T89, hk, rc, rd, sd_ev, eev]
  have ent_at : ∀ {h' : Heap}, Fr h0 h' → ∀ {i : Nat} {u : EntryV}, w.evs[i]? = some u → ∃ b o sp row, pe = some ⟨b, o, sp⟩ ∧ rowAt h' b = some row ∧ take? row (o + i * 2) 2 = some u.cells  := by
    intro h' f i u hi
    rcases lse with ⟨e, _⟩ | ⟨b, o, sp, c, row, e, hr, hx⟩
    · rw [e] at hi; simp at hi
    · simp only [Value.slice.injEq, true_and] at e
      exact ⟨b, o, sp, row, e.1, f.row' hk hr, (hx i u hi).1⟩
  refine W_for [3, 4, 5, 13, 14, 15, 16, 17, 18, 19, 20, 21, 22, 23, 24, 25, 26, 27, 28, 29, 30] 13 w.evs.length (fun i g h' => ∃ vo, g 3 = vo ∧ SL h0.next h' vo ((upto i).flatMap ints) 1 i ∧ Fr h0 h')
    (by simp only [upd_at, ↓reduceIte]) ⟨_, by simp only [upd_at, Nat.reduceEqDiff, ↓reduceIte], SL.nil _ _ _, Fr.refl hk⟩ ?_ ?_
  · rintro i g h2 hi ag g13 ⟨vo, g3, qo, f2⟩ ih
    obtain ⟨u, gu⟩ : ∃ u, w.evs[i]? = some u := ⟨_, List.getElem?_eq_getElem hi⟩
    obtain ⟨b, o, sp, row, rfl, hr, ht⟩ := ent_at f2 gu
    obtain ⟨e, _, hnum⟩ := (LR.get' D.nums gu)
    obtain ⟨pu, cu, eu⟩ := hnum.2.1.len
    have e13 : (u.kind == 13) = false := by simpa using hu u (List.mem_of_getElem? gu)
    simp only [EntryV.cells, eu] at ht
    have f3 := ex_fr [.row [.int .i64 u.kind, .slice pu e.nums.length cu] 0 true] f2
    have n2 := f2.next
    obtain ⟨h4, e4, q4, f4, n4, _⟩ := append_one (ts := []) app_22 f3 (by rw [ex_next]; omega) (qo.fr f2.ok (ex_fr _ (Fr.refl f2.ok))) (v := .int .i64 i) rfl (by omega)
    simp only [AMH, XH, Nat.reduceAdd] at e4
    simp (maxDischargeDepth := 30) only [AMS, AMH, ↓reduceIte, Nat.reduceLT, Nat.reduceEqDiff, Nat.reduceAdd, Nat.reduceMul, reduceCtorEq, decide_true, decide_false, Nat.reduceLeDiff, Int.reduceNe, Int.reduceEq, ne_eq, not_false_eq_true, and_self, XH, F238_T89, ag.r, NE, g3, g13, f2.ok, lt_t hi, hi, hr, ht, e13, e4, i_next hi hn]
    refine ih _ _ (by simp only [AG, Nat.reduceEqDiff, ag]) (by simp only [upd_at, ↓reduceIte]) ⟨.slice (some ⟨h2.next + 1 + 1, 0, some 1⟩) (i + 1) (i + 1), by simp only [upd_at, Nat.reduceEqDiff, ↓reduceIte], ?_, f4⟩
    rw [upto_succ, List.flatMap_append]
    exact q4
  · rintro g h2 ag g13 ⟨vo, g3, qo, f2⟩
    obtain ⟨po, co, evo⟩ := qo.value
    have qo' := qo
    have lo := SL.ls (xs := upto w.evs.length) ints_len (by rw [upto_len]; exact qo)
    rw [evo] at lo
    simp (maxDischargeDepth := 30) only [AMS, AMH, ↓reduceIte, Nat.reduceLT, Nat.reduceEqDiff, Nat.reduceAdd, Nat.reduceMul, reduceCtorEq, decide_true, decide_false, Nat.reduceLeDiff, Int.reduceNe, Int.reduceEq, ne_eq, not_false_eq_true, and_self, XH, F238_T89, ag.r, NE, g3, evo, g13, f2.ok, lt_f]
    have bl : ∀ b, blkOf vo = some b → h0.next ≤ b ∧ b < h2.next := fun b hb => qo.blk_lt f2.ok hb
    refine W_for [7, 33, 34, 35, 36, 37, 38, 39, 40, 41, 42, 43, 44, 45, 46, 47, 48] 33 w.evs.length (fun i g' h' => Fr hs h' ∧ h2.next ≤ h'.next ∧ h'.get c1 = some (.row [.pointer (some ⟨d, 0, none⟩)] 0 true) ∧ SL h0.next h' vo ((upto w.evs.length).flatMap ints) 1 w.evs.length ∧ ∃ F', J F' i h' ∧ ¬ F' c1 ∧ ∀ b, F' b → b < h0.next ∨ h2.next ≤ b)
      (by simp only [upd_at, ↓reduceIte]) ⟨f0.trans f2, Nat.le_refl _, f2.get' hk hc, qo, F, X.stay _ _ _ _ h1 hk f2, hF, fun b hb => .inl (X.low _ _ _ h1 b hb).2⟩ ?_ ?_
    · rintro i g' h3 hi ag' g33 ⟨f3, n3, c3, q3, F', j3, nF, lF⟩ ih
      obtain ⟨u, gu⟩ : ∃ u, w.evs[i]? = some u := ⟨_, List.getElem?_eq_getElem hi⟩
      have rc3 : rowAt h3 c1 = some [.pointer (some ⟨d, 0, none⟩)] := by unfold rowAt; rw [c3]; rfl
      have rd3 : rowAt h3 d = some (S.desk w) := by unfold rowAt; rw [f3.get' hks D.row]; rfl
      have lo3 := SL.ls (xs := upto w.evs.length) ints_len (by rw [upto_len]; exact q3)
      rw [evo] at lo3
      have ent3 := (SL.ls EntryV.len D.ent)
      rw [eev] at ent3
      have ent3 := ent3.fr hks f3
      rcases lo3 with ⟨e, _⟩ | ⟨b, o, sp, c, row, e, hr, hx⟩
      · have := congrArg List.length e; rw [upto_len] at this; simp at this; rw [this] at hi; simp at hi
      simp only [Value.slice.injEq, upto_len] at e
      obtain ⟨rfl, _, rfl⟩ := e
      have k1 : row[o + i]? = some (.int .i64 i) := by simpa [ints] using (hx i _ (upto_at hi)).2 0 (by omega)
      rcases ent3 with ⟨e, _⟩ | ⟨be, oe, spe, ce', rowe, e, hre, hxe⟩
      · rw [e] at gu; simp at gu
      simp only [Value.slice.injEq, true_and] at e
      obtain ⟨rfl, rfl⟩ := e
      have k2 := (hxe i u gu).1
      obtain ⟨h4, e4, gr, F4, hF4, j4⟩ := X.round F' i h3 u f3.ok (by have := f2.next; omega) f3 j3 gu
      simp (maxDischargeDepth := 30) only [AMS, AMH, ↓reduceIte, Nat.reduceLT, Nat.reduceEqDiff, Nat.reduceAdd, Nat.reduceMul, reduceCtorEq, decide_true, decide_false, Nat.reduceLeDiff, Int.reduceNe, Int.reduceEq, ne_eq, not_false_eq_true, and_self, XH, F238_T89, ag'.r, ag.r, NE, g33, f3.ok, lt_t hi, hi, hr, k1, Nat.mul_one, rc3, rd3, sd_ev, eev, hre, k2, V_yield, e4, i_next hi hn]
      refine ih _ _ (by simp only [AG, Nat.reduceEqDiff, ag']) (by simp only [upd_at, ↓reduceIte]) ⟨gr.fr f3 fun b hb => (X.low _ _ _ j3 b hb).1, by have := gr.next; omega, gr.get' f3.ok nF c3, ?_, F4, j4, ?_, ?_⟩
      · refine q3.keep fun b hb => gr.get b ?_ ?_
        · have := bl b hb; omega
        · intro hb'; have := bl b hb; have := lF b hb'; omega
      · intro hc'; rcases hF4 _ hc' with h | h
        · exact nF h
        · have := f2.next; omega
      · intro b hb; rcases hF4 b hb with h | h
        · exact lF b h
        · exact .inr (by omega)
    · rintro g' h3 ag' g33 ⟨f3, n3, c3, q3, F', j3, nF, lF⟩
      simp (maxDischargeDepth := 30) only [AMS, AMH, ↓reduceIte, Nat.reduceLT, Nat.reduceEqDiff, Nat.reduceAdd, Nat.reduceMul, reduceCtorEq, decide_true, decide_false, Nat.reduceLeDiff, Int.reduceNe, Int.reduceEq, ne_eq, not_false_eq_true, and_self, XH, F238_T89, ag'.r, ag.r, NE, g33, f3.ok, lt_f, Post_end]
      exact ⟨⟨F', j3⟩, f3⟩
end Go.Am

/- The abstract machine over this program: what stands at a desk. -/
namespace Go.Am
open Go Go.Proofs
theorem slIs_of {α : Type} {h : Heap} {v : Value} {xs : List α} {f : α → List Value} {s n : Nat} {k : List Value → Bool} (q : LS h v xs f s) (hne : xs ≠ []) (hs : 1 ≤ s) (hn : n = xs.length) (hm : k (xs.flatMap f) = true) : slIs h false n s k v = true := by
  subst hn
  cases xs with
  | nil => exact absurd rfl hne
  | cons x xs =>
    rcases q with ⟨e, _⟩ | ⟨b, o, sp, c, row, rfl, hr, hx⟩
    · cases e
    · have ht := cells_all xs x o fun i y hy => (hx i y hy).1
      obtain ⟨ob, ho, hr'⟩ := obind_eq hr
      cases ob <;> simp [rowOf] at hr'
      subst hr'
      unfold slIs
      simp only [List.length_cons, Nat.beq_refl, Bool.true_and, ho, ht, hm]
      have : Nat.ble 1 s = true := Nat.ble_eq_true_of_le hs
      rw [this]; simp
/-- the coats of the examples, wherever they lie -/
theorem coats_match {P : Nat → Prop} {h : Heap} {u : SuiteV} {S : SuiteD} (q : IsSuite P h u S) (e : S.coats = exD.coats) : matchT h false (dtOf coatFirst0A) [u.dry, u.wk, u.ct] = true := by
  have h1 := q.dry.1
  have h2 := q.wk.1
  have h3 := q.ct.1
  rw [e] at h1 h2 h3
  refine (Bool.and_eq_true _ _).mpr ⟨slIs_of h1 (by simp [exD]) (by omega) rfl (by kernel_rfl), (Bool.and_eq_true _ _).mpr ⟨slIs_of h2 (by simp [exD]) (by omega) rfl (by kernel_rfl), (Bool.and_eq_true _ _).mpr ⟨slIs_of h3 (by simp [exD]) (by omega) rfl (by kernel_rfl), rfl⟩⟩⟩
theorem mk_z {n : Nat} (hn : n ≤ 4) : aMakeSlice CC 22 (.int .i64 n) (.int .i64 n) = some (.new (.row ((List.replicate n (0 : Int)).flatMap ints) 1 true) (sliceTo 1 n n)) := by
  rcases (by omega : n = 0 ∨ n = 1 ∨ n = 2 ∨ n = 3 ∨ n = 4) with rfl | rfl | rfl | rfl | rfl <;> kernel_rfl
section
variable (σ : Sta) (v : StV) (x : Value)
theorem sq_36 : (σ.cells v).set 36 x = σ.cells { v with plan := x } := rfl
theorem sq_39 : (σ.cells v).set 39 x = σ.cells { v with hands := x } := rfl
theorem sq_40 : (σ.cells v).set 40 x = σ.cells { v with hours := x } := rfl
theorem sq_42 : (σ.cells v).set 42 x = σ.cells { v with paid := x } := rfl
theorem sq_43 : (σ.cells v).set 43 x = σ.cells { v with stands := x } := rfl
theorem sl_16 : (σ.cells v)[16]? = some v.u.bo := rfl
theorem sl_17 : (σ.cells v)[17]? = some v.u.st := rfl
theorem sl_32 : (σ.cells v)[32]? = some v.u.of := rfl
theorem sl_38 : (σ.cells v)[38]? = some (.map (some v.left)) := rfl
theorem sl_co : take? (σ.cells v) 10 3 = some [v.u.dry, v.u.wk, v.u.ct] := rfl
theorem sl_len : (σ.cells v).length = 44 := rfl
end
theorem SQ : type_of% (And.intro @sq_36 <| And.intro @sq_39 <| And.intro @sq_40 <| And.intro @sq_42 <| And.intro @sq_43 <| And.intro @sl_16 <| And.intro @sl_17 <| And.intro @sl_32 <| And.intro @sl_38 <| And.intro @sl_co @sl_len) := And.intro @sq_36 <| And.intro @sq_39 <| And.intro @sq_40 <| And.intro @sq_42 <| And.intro @sq_43 <| And.intro @sl_16 <| And.intro @sl_17 <| And.intro @sl_32 <| And.intro @sl_38 <| And.intro @sl_co @sl_len
/-- what stands at the beginning -/
def sta0 (S : SuiteD) : Sta := ⟨S, 0, [0, 2, 4], 0, upto 4, [-1, -1, -1, -1], [-1, -1], -1, List.replicate S.prices.offs.length 0, []⟩
def stv0 (u : SuiteV) (m : Nat) : StV := ⟨u, .slice none 0 0, m, .slice none 0 0, .slice none 0 0, .slice none 0 0, .slice none 0 0⟩
theorem build_state (S : SuiteD) (u : SuiteV) (m : Nat) : aBuild CC 257 [(0, .agg ⟨S.cells u⟩), (4, .map (some m)), (7, .int .i64 (-1))] = some (.agg ⟨(sta0 S).cells (stv0 u m)⟩) := by kernel_rfl
theorem rep4 {h : Heap} {b c : Nat} {sp : Option Nat} (hr : rowAt h b = some [.int .i64 (-1)]) :
    callF CC (Lim CC) 156 [.slice (some ⟨b, 0, sp⟩) 1 c, .int .i64 ((4 : Nat) : Int)] h = some (.ret (.slice (some ⟨h.next, 0, none⟩) 4 4) (h.ex [.row [.int .i64 (-1), .int .i64 (-1), .int .i64 (-1), .int .i64 (-1)] 1 true]) none) := by
  refine spec_call (show CC.A 156 = some repeatSpec by kernel_rfl) ?_
  have hm : matchA h false repeat4A [.slice (some ⟨b, 0, sp⟩) 1 c, .int .i64 ((4 : Nat) : Int)] = true := by
    have hs : slIs h false 1 1 (matchT h false (plI [-1] .nil)) (.slice (some ⟨b, 0, sp⟩) 1 c) = true := slIs_of (xs := [(-1 : Int)]) (f := ints) (LS.of_row ints_len hr) (by simp) (by omega) rfl (by kernel_rfl)
    show ((true && (slIs h false 1 1 (matchT h false (plI [-1] .nil)) (.slice (some ⟨b, 0, sp⟩) 1 c) && true)) && matchA h false [(false, plI [4] .nil)] [.int .i64 ((4 : Nat) : Int)]) = true
    rw [hs]; kernel_rfl
  simp only [repeatSpec, closedSpec, hm, allocs_ex]
  rfl
theorem rep2 {h : Heap} {b c : Nat} {sp : Option Nat} (hr : rowAt h b = some [.int .i64 (-1)]) :
    callF CC (Lim CC) 156 [.slice (some ⟨b, 0, sp⟩) 1 c, .int .i64 ((2 : Nat) : Int)] h = some (.ret (.slice (some ⟨h.next, 0, none⟩) 2 2) (h.ex [.row [.int .i64 (-1), .int .i64 (-1)] 1 true]) none) := by
  refine spec_call (show CC.A 156 = some repeatSpec by kernel_rfl) ?_
  have hm : matchA h false repeat2A [.slice (some ⟨b, 0, sp⟩) 1 c, .int .i64 ((2 : Nat) : Int)] = true := by
    have hs : slIs h false 1 1 (matchT h false (plI [-1] .nil)) (.slice (some ⟨b, 0, sp⟩) 1 c) = true := slIs_of (xs := [(-1 : Int)]) (f := ints) (LS.of_row ints_len hr) (by simp) (by omega) rfl (by kernel_rfl)
    show ((true && (slIs h false 1 1 (matchT h false (plI [-1] .nil)) (.slice (some ⟨b, 0, sp⟩) 1 c) && true)) && matchA h false [(false, plI [2] .nil)] [.int .i64 ((2 : Nat) : Int)]) = true
    rw [hs]; kernel_rfl
  have hm' : matchA h false repeat4A [.slice (some ⟨b, 0, sp⟩) 1 c, .int .i64 ((2 : Nat) : Int)] = false := by
    show (_ && matchA h false [(false, plI [4] .nil)] [.int .i64 ((2 : Nat) : Int)]) = false
    rw [show matchA h false [(false, plI [4] .nil)] [.int .i64 ((2 : Nat) : Int)] = false by kernel_rfl, Bool.and_false]
  simp only [repeatSpec, closedSpec, hm', hm, allocs_ex]
  rfl
theorem first_c {h : Heap} {a b c : Value} (hm : matchT h false (dtOf coatFirst0A) [a, b, c] = true) :
    callF CC (Lim CC) 10 [.agg ⟨[a, b, c]⟩] h = some (.ret (.tuple ⟨[.slice (some ⟨h.next, 0, none⟩) 3 3, .int .i64 0]⟩) (h.ex [.row [.int .i64 0, .int .i64 2, .int .i64 4] 1 true]) none) := by
  have := closed_call (R := coatFirst0R) (show CC.A 10 = some (closedSpec coatFirst0A coatFirst0R noSpec) by kernel_rfl) (match_one hm)
  rw [this]; rfl
theorem int_eq (x y : Int) : keyEq (.int .i64 x) (.int .i64 y) = some (decide (x = y)) := by
  show (if IntKind.i64 = IntKind.i64 then some (x == y) else none) = _
  rw [if_pos rfl]
  by_cases h : x = y <;> simp [h]
theorem standing_d (d : Nat) {h : Heap} (hk : HOK h) : callF CC (Lim CC) 157 [.pointer (some ⟨d, 0, none⟩)] h = some (.ret (.func (.func 238) ⟨[]⟩ ⟨[.pointer (some ⟨h.next, 0, none⟩)]⟩) (h.ex [.row [.pointer (some ⟨d, 0, none⟩)] 0 true]) none) := by
  refine CW.eq (CW_in Tryz.f157 (by kernel_rfl) (by kernel_rfl) rfl rfl ?_)
  simp only [Tryz.f157]
  simp (maxDischargeDepth := 30) only [AMS, AMH, ↓reduceIte, Nat.reduceLT, Nat.reduceEqDiff, Nat.reduceAdd, Nat.reduceMul, reduceCtorEq, decide_true, decide_false, Nat.reduceLeDiff, Int.reduceNe, Int.reduceEq, ne_eq, not_false_eq_true, and_self, XH, L_nil, hk]
def stvA (u : SuiteV) (m n : Nat) : StV := ⟨u, .slice (some ⟨m + 3, 0, none⟩) 3 3, m, .slice (some ⟨m + 5, 0, none⟩) 4 4, .slice (some ⟨m + 7, 0, none⟩) 2 2, .slice (some ⟨m + 8, 0, some 1⟩) n n, .slice none 0 0⟩
def objsA2 (S : SuiteD) (u : SuiteV) (m n : Nat) : List AObj := [.row ((sta0 S).cells (stvA u m n)) 0 true, .row [.pointer (some ⟨m + 1, 0, none⟩)] 0 true, .row [.int .i64 0, .int .i64 2, .int .i64 4] 1 true, .row [.int .i64 (-1)] 1 true, .row [.int .i64 (-1), .int .i64 (-1), .int .i64 (-1), .int .i64 (-1)] 1 true, .row [.int .i64 (-1)] 1 true, .row [.int .i64 (-1), .int .i64 (-1)] 1 true, .row ((List.replicate n (0 : Int)).flatMap ints) 1 true]
/-- the state at the beginning, as it lies in memory -/
theorem start_state {h h1 : Heap} (f1 : Fr h h1) {S : SuiteD} {u : SuiteV} (iu : IsSuite (fun b => h.next ≤ b ∧ b < h1.next ∧ blkOf u.sk ≠ some b) h1 u S) (sk : SL h.next h1 u.sk (S.stock.flatMap ints) 1 S.stock.length) {es : List MapEntry} {cl : Nat} (hes : Keys es (upto 4)) :
    IsState h.next (h1.ex (.map es cl :: objsA2 S u h1.next S.prices.offs.length)) (h1.next + 1) (sta0 S) (stvA u h1.next S.prices.offs.length) := by
  have fx := ex_fr (.map es cl :: objsA2 S u h1.next S.prices.offs.length) (Fr.refl f1.ok)
  have n1 := f1.next
  have g : ∀ {j : Nat} {o : AObj}, (AObj.map es cl :: objsA2 S u h1.next S.prices.offs.length)[j]? = some o → (h1.ex (.map es cl :: objsA2 S u h1.next S.prices.offs.length)).get (h1.next + j) = some o := fun {j o} e => by
    rw [ex_at rfl (List.getElem?_eq_some_iff.1 e).1]; exact e
  have bs : ∀ b, blkOf u.sk = some b → b < h1.next := fun b hb => (sk.blk_lt f1.ok hb).2
  have fix : ∀ b, h.next ≤ b → (b < h1.next ∧ blkOf u.sk ≠ some b ∨ b = h1.next + 3) → (stvA u h1.next S.prices.offs.length).Fix h.next (h1.next + 1) b := by
    intro b hb h2
    refine ⟨hb, by omega, ?_, ?_, ?_, ?_, ?_, ?_⟩
    · show b ≠ h1.next; omega
    · intro e; rcases h2 with ⟨_, h3⟩ | rfl
      · exact h3 e
      · have := bs _ e; omega
    · simp [stvA, blkOf]; omega
    · simp [stvA, blkOf]; omega
    · simp [stvA, blkOf]; omega
    · simp [stvA, blkOf]
  exact {
    row := g (j := 1) rfl
    suite := (iu.fr f1.ok fx).mono fun b hb => fix b hb.1 (.inl hb.2)
    plan := ⟨LS.of_row (xs := [(0 : Int), 2, 4]) ints_len (by unfold rowAt; rw [g (j := 3) rfl]; rfl), fun _ b hb => by simp [stvA, blkOf] at hb; subst hb; exact fix _ (by omega) (.inr rfl)⟩
    sk := (sk.fr f1.ok fx).mr
    hands := .inr ⟨_, _, _, rfl, g (j := 5) rfl⟩
    hours := .inr ⟨_, _, _, rfl, g (j := 7) rfl⟩
    paid := .inr ⟨_, some 1, S.prices.offs.length, by simp [stvA, sta0], g (j := 8) rfl⟩
    stands := SL.nil _ _ _
    left := ⟨es, cl, g (j := 0) rfl, hes⟩
    low := ⟨by omega, by show h.next ≤ h1.next; omega, fun b hb => by
      rcases hb with hb | hb | hb | hb
      · exact (sk.blk_lt f1.ok hb).1
      · simp [stvA, blkOf] at hb; omega
      · simp [stvA, blkOf] at hb; omega
      · simp [stvA, blkOf] at hb; omega⟩
    a1 := fun b hb e => by have := bs b hb; simp [stvA, blkOf] at e; omega
    a2 := fun b hb e => by have := bs b hb; simp [stvA, blkOf] at e; omega
    a3 := fun b hb e => by have := bs b hb; simp [stvA, blkOf] at e; omega
    a4 := fun b hb e => by simp [stvA, blkOf] at e
    a5 := fun b hb e => by simp [stvA, blkOf] at e hb; omega
    a6 := fun b hb e => by simp [stvA, blkOf] at e hb; omega
    a7 := fun b hb e => by simp [stvA, blkOf] at e
    a8 := fun b hb e => by simp [stvA, blkOf] at e hb; omega
    a9 := fun b hb e => by simp [stvA, blkOf] at e
    a10 := fun b hb e => by simp [stvA, blkOf] at e }
end Go.Am

/- The abstract machine over this program: an entry more that stands. -/
namespace Go.Am
open Go Go.Proofs
theorem stand_step {M : Nat} {h : Heap} {p : Nat} {σ : Sta} {v : StV} (hk : HOK h) (hp : 0 < h.next) (q : IsState M h p σ v) (n : Int) (hn : σ.stands.length ≤ 1000) (hM : M ≤ h.next) :
    ∃ h4, aAppend CC [22, 22] v.stands (.slice (some ⟨h.next, 0, some 1⟩) 1 1) (h.ex [.row [.int .i64 n] 1 true]) = some (.slice (some ⟨h.next + 1, 0, some 1⟩) (σ.stands.length + 1) (σ.stands.length + 1), h4) ∧ HOK h4 ∧ h4.get p = some (.row (σ.cells v) 0 true) ∧
      IsState M (h4.set p (.row (σ.cells { v with stands := .slice (some ⟨h.next + 1, 0, some 1⟩) (σ.stands.length + 1) (σ.stands.length + 1) }) 0 true)) p { σ with stands := σ.stands ++ [n] } { v with stands := .slice (some ⟨h.next + 1, 0, some 1⟩) (σ.stands.length + 1) (σ.stands.length + 1) } ∧
      Gr (fun b => b = p ∨ blkOf v.stands = some b) h (h4.set p (.row (σ.cells { v with stands := .slice (some ⟨h.next + 1, 0, some 1⟩) (σ.stands.length + 1) (σ.stands.length + 1) }) 0 true)) := by
  obtain ⟨h4, e4, q4, k4, n4, g4⟩ := append_raw (ts := []) app_22 hk hM hp q.stands (v := .int .i64 n) rfl (by omega)
  rw [ex_one] at e4
  have pl := get_lt hk q.row
  have ps : blkOf v.stands ≠ some p := q.stands.other q.row (by simp)
  have ml : v.left < h.next ∧ blkOf v.stands ≠ some v.left ∧ v.left ≠ p := by
    obtain ⟨es, c, e, _⟩ := q.left
    exact ⟨get_lt hk e, q.stands.other e (by simp), by intro e'; rw [e', q.row] at e; simp at e⟩
  have g4p : h4.get p = some (.row (σ.cells v) 0 true) := by rw [g4 p pl ps]; exact q.row
  generalize hv : Value.slice (some ⟨h.next + 1, 0, some 1⟩) (σ.stands.length + 1) (σ.stands.length + 1) = nv at e4 q4 ⊢
  have gs : ∀ (x : AObj) b, b < h.next → b ≠ p → blkOf v.stands ≠ some b → (h4.set p x).get b = h.get b := fun x b hb hne hs => by rw [Heap.get_set_ne _ _ hne]; exact g4 b hb hs
  have kx : ∀ x, HOK (h4.set p x) := fun x => k4.set (by omega) x
  have bn : blkOf nv = some (h.next + 1) := by rw [← hv]; rfl
  refine ⟨h4, e4, k4, g4p, ?_, kx _, by simp; omega, fun i hi hx => gs _ i hi (fun e => hx (.inl e)) fun e => hx (.inr e)⟩
  -- lists that are never written
  have fixlt : ∀ {α : Type} {w : Value} {xs : List α} {f : α → List Value} {s : Nat}, LP (v.Fix M p) h w xs f s → LP (StV.Fix { v with stands := nv } M p) (h4.set p (.row (σ.cells { v with stands := nv }) 0 true)) w xs f s := fun {α w xs f s} ql => by
    refine ⟨?_, fun e b hb => ?_⟩
    · rcases ql.1 with q1 | ⟨b, o, sp, c, row, rfl, h1, h2⟩
      · exact .inl q1
      · by_cases e : xs = []
        · subst e; exact .inl ⟨rfl, _, _, rfl⟩
        · have hb := ql.2 e b rfl
          exact .inr ⟨b, o, sp, c, row, rfl, by unfold rowAt; rw [gs _ b (row_lt hk h1) hb.2.1 hb.2.2.2.2.2.2.2]; exact h1, h2⟩
    · have hb' := ql.2 e b hb
      refine ⟨hb'.1, hb'.2.1, hb'.2.2.1, hb'.2.2.2.1, hb'.2.2.2.2.1, hb'.2.2.2.2.2.1, hb'.2.2.2.2.2.2.1, ?_⟩
      show blkOf nv ≠ some b
      rw [bn]
      rcases ql.1 with ⟨e', _⟩ | ⟨b', o, sp, c, row, rfl, h1, h2⟩
      · exact absurd e' e
      · simp [blkOf] at hb; subst hb
        have := row_lt hk h1
        simp; omega
  have mr : ∀ {w : Value} {l : List Int}, MR h w l → Apart w v.stands → MR (h4.set p (.row (σ.cells { v with stands := nv }) 0 true)) w l := fun {w l} qm ha => by
    rcases qm with qm | ⟨b, sp, c, rfl, h1⟩
    · exact .inl qm
    · refine .inr ⟨b, sp, c, rfl, ?_⟩
      rw [gs _ b (get_lt hk h1) (by rintro rfl; rw [q.row] at h1; simp at h1) (ha b rfl)]; exact h1
  have ap : ∀ {w : Value} {l : List Int}, MR h w l → Apart w nv := fun {w l} qm b hb e => by
    rw [bn] at e; simp at e
    rcases qm with ⟨_, c, rfl⟩ | ⟨b', sp, c, rfl, h1⟩
    · simp [blkOf] at hb
    · simp [blkOf] at hb; have := get_lt hk h1; omega
  exact {
    row := get_set_self' _ _ _
    suite := ⟨fixlt q.suite.w, fixlt q.suite.pr, by obtain ⟨us, q1, q2⟩ := q.suite.wd; exact ⟨us, fixlt q1, q2.map fun _ _ hu => ⟨fixlt hu.signs, fixlt hu.cuts, hu.free⟩⟩, fixlt q.suite.dry, fixlt q.suite.wk, fixlt q.suite.ct, by obtain ⟨us, q1, q2⟩ := q.suite.sp; exact ⟨us, fixlt q1, q2.map fun _ _ hu => fixlt hu⟩, fixlt q.suite.bo, by obtain ⟨us, q1, q2⟩ := q.suite.st; exact ⟨us, fixlt q1, q2.map fun _ _ hu => ⟨hu.board, hu.round, hu.lo, hu.hi, fixlt hu.needs⟩⟩, fixlt q.suite.ti, fixlt q.suite.of, fixlt q.suite.bd, fixlt q.suite.tr⟩
    plan := fixlt q.plan
    sk := mr q.sk q.a4
    hands := mr q.hands q.a7
    hours := mr q.hours q.a9
    paid := mr q.paid q.a10
    stands := by
      have : (σ.stands ++ [n]).length = σ.stands.length + 1 := by simp
      show SL M _ nv ((σ.stands ++ [n]).flatMap ints) 1 (σ.stands ++ [n]).length
      rw [this, List.flatMap_append]
      exact q4.keep fun b hb => Heap.get_set_ne _ _ (by rw [bn] at hb; simp at hb; omega)
    left := by obtain ⟨es, c, e, k⟩ := q.left; exact ⟨es, c, by rw [gs _ _ ml.1 ml.2.2 ml.2.1]; exact e, k⟩
    low := q.low
    a1 := q.a1
    a2 := q.a2
    a3 := q.a3
    a4 := ap q.sk
    a5 := q.a5
    a6 := q.a6
    a7 := ap q.hands
    a8 := q.a8
    a9 := ap q.hours
    a10 := ap q.paid }
end Go.Am
