/- Parts 136, 137 of the abstract machine over this program, joined: what each part says stands at its head. -/
import Derived.Test.YtfnkjclplfhjcaaGreatDoorJ135
import Derived.Test.YtfnkjclplfhjcaaGreatDoorJ134
set_option linter.unusedSimpArgs false
set_option linter.unusedVariables false
/- The abstract machine, part 136: a sheet whose lists grow; panics in regions that draw. -/
namespace Go.Am
open Go Go.Proofs

theorem W_callPX {C : Ctx} {rd : Option Nat} {ops : List Oper} {pl : List PE} {k : List Go.Item} {rs : List Rec} {dst : Option Tmp} {n : Nat} {f' : Nat → Value} {p : Option Value} {h : Heap} {Q : FEnd → FrS → Heap → Prop} {f : FuncId} {args : List Value} {P R : Value → Heap → Prop}
    (hc : CX C f args h P R) (hw : ∀ v h', P v h' → W (RP C rd ops pl k rs (FrS.put ⟨T n f', [], p⟩ dst v) h') Q) (hr : ∀ v h', R v h' → Q (.panic v) ⟨T n f', [], p⟩ h') : W (RPc C rd ops pl k rs dst ⟨T n f', [], p⟩ (callF C (Lim C) f args h)) Q := by
  rcases hc with ⟨v, h', e, hp⟩ | ⟨v, h', e, hp⟩
  · rw [e, RPc_ret]; exact hw v h' hp
  · rw [e, RPc_panic _ rfl]; exact ⟨_, _, _, rfl, hr v h' hp⟩

theorem SL.tag {N : Nat} {h : Heap} {v : Value} {l L : List Value} {s n p z : Nat} (q : SL N h v l s n) (hg : h.get p = some (.row L z true)) (hz : z ≠ s) : blkOf v ≠ some p := by
  rcases q with ⟨rfl, _, _⟩ | ⟨b, rfl, _, _, h3, _⟩
  · simp [blkOf]
  · intro e
    simp [blkOf] at e
    subst e
    rw [h3] at hg
    simp at hg
    exact hz hg.2.symm
theorem SL.tag2 {N M : Nat} {h : Heap} {v w : Value} {l l' : List Value} {s s' n n' p : Nat} (q : SL N h v l s n) (q' : SL M h w l' s' n') (hz : s' ≠ s) (hw : blkOf w = some p) : blkOf v ≠ some p := by
  rcases q' with ⟨rfl, _, _⟩ | ⟨b, rfl, _, _, h3, _⟩
  · simp [blkOf] at hw
  · simp [blkOf] at hw
    subst hw
    exact q.tag h3 hz

theorem bs_23b (b : Board) : aBuildSlice CC 23 1 [(0, .agg ⟨b.cells⟩)] = some (.new (.row b.cells 5 true) (sliceTo 5 1 1)) := by kernel_rfl
theorem append_M {C : Ctx} {t u : TypeId} {ts : List TypeId} {w : Nat} (ht : AppT C t u w) {N : Nat} {h1 : Heap} {out x : Value} {l new : List Value} {n m : Nat} (hk : HOK h1) (hN : N ≤ h1.next) (hp : 0 < h1.next) (q : SL N h1 out l w n)
    (hx : lenOfV x = some (m + 1)) (hc : sliceCells h1 w (m + 1) x = some new) (h1' : allOne new = true) (hl : new.length = (m + 1) * w) (hn : n + (m + 1) ≤ 4294967296) :
    ∃ h', aAppend C (t :: u :: ts) out x h1 = some (sliceTo w (n + (m + 1)) (n + (m + 1)) h1.next, h') ∧ SL N h' (sliceTo w (n + (m + 1)) (n + (m + 1)) h1.next) (l ++ new) w (n + (m + 1)) ∧ HOK h' ∧ h'.next = h1.next + 1 ∧ ∀ i, i < h1.next → blkOf out ≠ some i → h'.get i = h1.get i := by
  have f : Fr ⟨0, .nil⟩ h1 := ⟨hk, Nat.zero_le _, fun i hi => absurd hi (Nat.not_lt_zero _)⟩
  obtain ⟨h', e, q', f', n', g'⟩ := append_at (ts := ts) ht f hp (q.weak (Nat.zero_le _)) hx hc h1' hl hn
  refine ⟨h', e, ?_, f'.ok, n', g'⟩
  rcases q' with ⟨e', _⟩ | ⟨b, e', a1, a2, a3⟩
  · simp [sliceTo] at e'
  · refine .inr ⟨b, e', a1, ?_, a3⟩
    simp [sliceTo] at e'
    omega

/-- three lists that grow -/
structure Acc (N : Nat) (h : Heap) (v0 v1 v2 : Value) (s : Sheet) : Prop where
  o : SL N h v0 (s.offs.flatMap ints) 1 s.offs.length
  b : SL N h v1 (s.boards.flatMap Board.cells) 5 s.boards.length
  t : SL N h v2 (s.tars.flatMap Tar.cells) 5 s.tars.length
  ne : ∀ i, blkOf v1 = some i → blkOf v2 ≠ some i
theorem Acc.fr {N : Nat} {h h' : Heap} {v0 v1 v2 : Value} {s : Sheet} (A : Acc N h v0 v1 v2 s) (hk : HOK h) (f : Fr h h') : Acc N h' v0 v1 v2 s := ⟨A.o.fr hk f, A.b.fr hk f, A.t.fr hk f, A.ne⟩
theorem Acc.put {N : Nat} {h : Heap} {v0 v1 v2 : Value} {s : Sheet} (A : Acc N h v0 v1 v2 s) {p : Nat} {L : List Value} (hg : h.get p = some (.row L 0 true)) (x : AObj) : Acc N (h.set p x) v0 v1 v2 s := by
  have k : ∀ {v : Value} {l : List Value} {w n : Nat}, SL N h v l w n → 0 ≠ w → SL N (h.set p x) v l w n := fun q hw => q.keep fun b hb => Heap.get_set_ne _ _ fun e => q.tag hg hw (by rw [hb, e])
  exact ⟨k A.o (by decide), k A.b (by decide), k A.t (by decide), A.ne⟩
theorem Acc.nil (N : Nat) (h : Heap) : Acc N h (.slice none 0 0) (.slice none 0 0) (.slice none 0 0) ⟨[], [], []⟩ := ⟨.nil _ _ _, .nil _ _ _, .nil _ _ _, fun i e => by simp [blkOf] at e⟩
theorem Acc.weak {N M : Nat} {h : Heap} {v0 v1 v2 : Value} {s : Sheet} (A : Acc N h v0 v1 v2 s) (hm : M ≤ N) : Acc M h v0 v1 v2 s := ⟨A.o.weak hm, A.b.weak hm, A.t.weak hm, A.ne⟩
theorem Acc.sheet {N : Nat} {h : Heap} {v0 v1 v2 : Value} {s : Sheet} (A : Acc N h v0 v1 v2 s) : IsSheet h v0 v1 v2 s := ⟨SL.ls ints_len A.o, SL.ls Board.len A.b, SL.ls Tar.len A.t⟩

section
variable {N : Nat} {h : Heap} {v0 v1 v2 x : Value} {s : Sheet}
theorem Acc.addO (A : Acc N h v0 v1 v2 s) (hk : HOK h) (hN : N ≤ h.next) (hp : 0 < h.next) {n : Int} (hx : lenOfV x = some 1) (hc : sliceCells h 1 1 x = some [.int .i64 n]) (hl : s.offs.length ≤ 10000) :
    ∃ v0' h', aAppend CC [22, 22] v0 x h = some (v0', h') ∧ (∃ a b c, v0' = .slice a b c) ∧ Acc N h' v0' v1 v2 ⟨s.offs ++ [n], s.boards, s.tars⟩ ∧ HOK h' ∧ h'.next = h.next + 1 ∧ (∀ i, i < N → h'.get i = h.get i) ∧ ∀ p L, h.get p = some (.row L 0 true) → h'.get p = some (.row L 0 true) := by
  obtain ⟨h', e, q, k', n', g'⟩ := append_M (ts := []) app_22 (N := N) hk hN hp A.o (x := x) (new := [.int .i64 n]) (m := 0) hx hc rfl rfl (by omega)
  have keep : ∀ {v : Value} {l : List Value} {w n : Nat}, SL N h v l w n → 1 ≠ w → SL N h' v l w n := fun q hw => q.keep fun b hb => g' b (q.blk_lt hk hb).2 fun e => A.o.tag2 q (fun e => hw e.symm) hb e
  refine ⟨_, h', e, ⟨_, _, _, rfl⟩, ⟨?_, keep A.b (by decide), keep A.t (by decide), A.ne⟩, k', n', fun i hi => g' i (by omega) fun e => by have := (A.o.blk_lt hk e).1; omega, fun p L hg => ?_⟩
  · simpa [ints] using q
  · rw [g' p (get_lt hk hg) (A.o.tag hg (by decide))]; exact hg
theorem Acc.addB (A : Acc N h v0 v1 v2 s) (hk : HOK h) (hN : N ≤ h.next) (hp : 0 < h.next) {n : Board} (hx : lenOfV x = some 1) (hc : sliceCells h 5 1 x = some n.cells) (hl : s.boards.length ≤ 10000) :
    ∃ v1' h', aAppend CC [23, 23] v1 x h = some (v1', h') ∧ (∃ a b c, v1' = .slice a b c) ∧ Acc N h' v0 v1' v2 ⟨s.offs, s.boards ++ [n], s.tars⟩ ∧ HOK h' ∧ h'.next = h.next + 1 ∧ (∀ i, i < N → h'.get i = h.get i) ∧ ∀ p L, h.get p = some (.row L 0 true) → h'.get p = some (.row L 0 true) := by
  obtain ⟨h', e, q, k', n', g'⟩ := append_M (ts := []) app_23 (N := N) hk hN hp A.b (x := x) (new := n.cells) (m := 0) hx hc rfl rfl (by omega)
  refine ⟨_, h', e, ⟨_, _, _, rfl⟩, ⟨A.o.keep fun b hb => g' b (A.o.blk_lt hk hb).2 fun e => A.b.tag2 A.o (by decide) hb e, ?_, A.t.keep fun b hb => g' b (A.t.blk_lt hk hb).2 fun e => A.ne b e hb, fun i e' => ?_⟩, k', n', fun i hi => g' i (by omega) fun e => by have := (A.b.blk_lt hk e).1; omega, fun p L hg => ?_⟩
  · simpa using q
  · simp [sliceTo, blkOf] at e'
    intro e2
    have := (A.t.blk_lt hk e2).2
    omega
  · rw [g' p (get_lt hk hg) (A.b.tag hg (by decide))]; exact hg
theorem Acc.addT (A : Acc N h v0 v1 v2 s) (hk : HOK h) (hN : N ≤ h.next) (hp : 0 < h.next) {n : Tar} (hx : lenOfV x = some 1) (hc : sliceCells h 5 1 x = some n.cells) (hl : s.tars.length ≤ 10000) :
    ∃ v2' h', aAppend CC [24, 24] v2 x h = some (v2', h') ∧ (∃ a b c, v2' = .slice a b c) ∧ Acc N h' v0 v1 v2' ⟨s.offs, s.boards, s.tars ++ [n]⟩ ∧ HOK h' ∧ h'.next = h.next + 1 ∧ (∀ i, i < N → h'.get i = h.get i) ∧ ∀ p L, h.get p = some (.row L 0 true) → h'.get p = some (.row L 0 true) := by
  obtain ⟨h', e, q, k', n', g'⟩ := append_M (ts := []) app_24 (N := N) hk hN hp A.t (x := x) (new := n.cells) (m := 0) hx hc rfl rfl (by omega)
  refine ⟨_, h', e, ⟨_, _, _, rfl⟩, ⟨A.o.keep fun b hb => g' b (A.o.blk_lt hk hb).2 fun e => A.t.tag2 A.o (by decide) hb e, A.b.keep fun b hb => g' b (A.b.blk_lt hk hb).2 fun e => A.ne b hb e, ?_, fun i e' => ?_⟩, k', n', fun i hi => g' i (by omega) fun e => by have := (A.t.blk_lt hk e).1; omega, fun p L hg => ?_⟩
  · simpa using q
  · have := (A.b.blk_lt hk e').2
    simp [sliceTo, blkOf]
    omega
  · rw [g' p (get_lt hk hg) (A.t.tag hg (by decide))]; exact hg
end

/- ITEMS, ONE BY ONE -/
theorem items_bad : ∀ {rs : List Bs} {i : Nat} {r : Bs}, rs[i]? = some r → itemP (cutAt 32 r) = none → itemsP rs = none
  | [], _, _, h, _ => by simp at h
  | a :: rs, 0, r, h, hb => by
    have : a = r := by simpa using h
    subst this
    unfold itemsP
    rw [hb]
  | a :: rs, i + 1, r, h, hb => by
    have ih := items_bad (rs := rs) (i := i) (by simpa using h) hb
    unfold itemsP
    rw [ih]
    cases itemP (cutAt 32 a) <;> rfl
theorem items_app : ∀ (a b : List Bs), itemsP (a ++ b) = match itemsP a with | none => none | some l => match itemsP b with | none => none | some m => some (l ++ m)
  | [], b => by
    show itemsP b = match itemsP b with | none => none | some m => some ([] ++ m)
    cases itemsP b <;> rfl
  | x :: a, b => by
    show (match itemP (cutAt 32 x) with | none => none | some it => match itemsP (a ++ b) with | none => none | some its => some (it :: its)) = _
    rw [items_app a b]
    show _ = match (match itemP (cutAt 32 x) with | none => none | some it => match itemsP a with | none => none | some its => some (it :: its)) with | none => none | some l => match itemsP b with | none => none | some m => some (l ++ m)
    cases itemP (cutAt 32 x) with
    | none => rfl
    | some it =>
      cases itemsP a with
      | none => rfl
      | some l => cases itemsP b <;> rfl
theorem items_snoc {rs : List Bs} {i : Nat} {r : Bs} {l : List Item} {it : Item} (h : rs[i]? = some r) (hl : itemsP (rs.take i) = some l) (hi : itemP (cutAt 32 r) = some it) : itemsP (rs.take (i + 1)) = some (l ++ [it]) := by
  obtain ⟨hk, e⟩ := List.getElem?_eq_some_iff.1 h
  rw [List.take_succ_eq_append_getElem hk, e, items_app, hl]
  show (match (match itemP (cutAt 32 r) with | none => none | some it => some [it]) with | none => none | some m => some (l ++ m)) = _
  rw [hi]
theorem refs_bad : ∀ {rs : List Bs} {i : Nat} {r : Bs}, rs[i]? = some r → refItem (cutAt 32 r) = none → refItems rs = none
  | [], _, _, h, _ => by simp at h
  | a :: rs, 0, r, h, hb => by
    have : a = r := by simpa using h
    subst this
    unfold refItems
    rw [hb]
  | a :: rs, i + 1, r, h, hb => by
    have ih := refs_bad (rs := rs) (i := i) (by simpa using h) hb
    unfold refItems
    rw [ih]
    cases refItem (cutAt 32 a) <;> rfl
theorem refs_app : ∀ (a b : List Bs), refItems (a ++ b) = match refItems a with | none => none | some l => match refItems b with | none => none | some m => some (l ++ m)
  | [], b => by
    show refItems b = match refItems b with | none => none | some m => some ([] ++ m)
    cases refItems b <;> rfl
  | x :: a, b => by
    show (match refItem (cutAt 32 x) with | none => none | some it => match refItems (a ++ b) with | none => none | some its => some (it :: its)) = _
    rw [refs_app a b]
    show _ = match (match refItem (cutAt 32 x) with | none => none | some it => match refItems a with | none => none | some its => some (it :: its)) with | none => none | some l => match refItems b with | none => none | some m => some (l ++ m)
    cases refItem (cutAt 32 x) with
    | none => rfl
    | some it =>
      cases refItems a with
      | none => rfl
      | some l => cases refItems b <;> rfl
theorem refs_snoc {rs : List Bs} {i : Nat} {r : Bs} {l : List Item} {it : Item} (h : rs[i]? = some r) (hl : refItems (rs.take i) = some l) (hi : refItem (cutAt 32 r) = some it) : refItems (rs.take (i + 1)) = some (l ++ [it]) := by
  obtain ⟨hk, e⟩ := List.getElem?_eq_some_iff.1 h
  rw [List.take_succ_eq_append_getElem hk, e, refs_app, hl]
  show (match (match refItem (cutAt 32 r) with | none => none | some it => some [it]) with | none => none | some m => some (l ++ m)) = _
  rw [hi]
theorem items_len : ∀ {rs : List Bs} {l : List Item}, itemsP rs = some l → l.length = rs.length
  | [], l, h => by
    have : l = [] := by simpa [itemsP] using h.symm
    subst this; rfl
  | r :: rs, l, h => by
    unfold itemsP at h
    cases h1 : itemP (cutAt 32 r) with
    | none => rw [h1] at h; cases h
    | some it =>
      rw [h1] at h
      cases h2 : itemsP rs with
      | none => rw [h2] at h; cases h
      | some its => rw [h2] at h; cases h; simp [items_len h2]
theorem refs_len : ∀ {rs : List Bs} {l : List Item}, refItems rs = some l → l.length = rs.length
  | [], l, h => by
    have : l = [] := by simpa [refItems] using h.symm
    subst this; rfl
  | r :: rs, l, h => by
    unfold refItems at h
    cases h1 : refItem (cutAt 32 r) with
    | none => rw [h1] at h; cases h
    | some it =>
      rw [h1] at h
      cases h2 : refItems rs with
      | none => rw [h2] at h; cases h
      | some its => rw [h2] at h; cases h; simp [refs_len h2]
theorem sheet_len (l : List Item) : (sheetOf l).offs.length ≤ l.length ∧ (sheetOf l).boards.length ≤ l.length ∧ (sheetOf l).tars.length ≤ l.length := ⟨List.length_filterMap_le _ _, List.length_filterMap_le _ _, List.length_filterMap_le _ _⟩
theorem sheet_o (l : List Item) (n : Int) : sheetOf (l ++ [.o n]) = ⟨(sheetOf l).offs ++ [n], (sheetOf l).boards, (sheetOf l).tars⟩ := by simp [sheetOf, Item.o?, Item.b?, Item.t?]
theorem sheet_b (l : List Item) (n : Board) : sheetOf (l ++ [.b n]) = ⟨(sheetOf l).offs, (sheetOf l).boards ++ [n], (sheetOf l).tars⟩ := by simp [sheetOf, Item.o?, Item.b?, Item.t?]
theorem sheet_t (l : List Item) (n : Tar) : sheetOf (l ++ [.t n]) = ⟨(sheetOf l).offs, (sheetOf l).boards, (sheetOf l).tars ++ [n]⟩ := by simp [sheetOf, Item.o?, Item.b?, Item.t?]
theorem mid_len (t : Bs) (h : 3 ≤ (cutAt 10 t).length) : (midB t).length = (cutAt 10 t).length - 3 := by unfold midB; simp; omega
end Go.Am

/- The abstract machine, part 137: contracts: a text is read. -/
namespace Go.Am
open Go Go.Proofs
theorem F95_Am137 : type_of% (And.intro @bld_30 <| And.intro @bld_72 <| And.intro @fld_30_0 <| And.intro @fld_30_1 <| And.intro @fld_72_0 <| And.intro @fld_72_1 <| And.intro @fld_72_2 <| And.intro @fld_72_3 <| And.intro @fp_26_0 <| And.intro @fp_26_1 <| And.intro @fp_26_2 <| And.intro @ix_117 <| And.intro @ix_22 <| And.intro @ix_23 <| And.intro @ix_24 <| And.intro @ld_22 <| And.intro @ld_23 <| And.intro @ld_24 <| And.intro @ld_26 <| And.intro @ld_3 <| And.intro @ld_9 <| And.intro @len_117 <| And.intro @part_3 <| And.intro @part_41 <| And.intro @part_72 <| And.intro @part_9 <| And.intro @size_117 <| And.intro @size_143 <| And.intro @size_22 <| And.intro @size_23 <| And.intro @size_24 <| And.intro @size_26 <| And.intro @size_3 <| And.intro @size_30 <| And.intro @size_41 <| And.intro @size_72 <| And.intro @size_9 <| And.intro @sp_30_0 <| And.intro @sp_30_1 <| And.intro @sp_72_0 <| And.intro @sp_72_1 <| And.intro @sp_72_2 <| And.intro @sp_72_3 <| And.intro @und_117 <| And.intro @und_143 <| And.intro @und_22 <| And.intro @und_23 <| And.intro @und_24 <| And.intro @zero_117 <| And.intro @zero_143 <| And.intro @zero_22 <| And.intro @zero_23 <| And.intro @zero_24 <| And.intro @zero_26 <| And.intro @zero_30 @zero_72) := And.intro @bld_30 <| And.intro @bld_72 <| And.intro @fld_30_0 <| And.intro @fld_30_1 <| And.intro @fld_72_0 <| And.intro @fld_72_1 <| And.intro @fld_72_2 <| And.intro @fld_72_3 <| And.intro @fp_26_0 <| And.intro @fp_26_1 <| And.intro @fp_26_2 <| And.intro @ix_117 <| And.intro @ix_22 <| And.intro @ix_23 <| And.intro @ix_24 <| And.intro @ld_22 <| And.intro @ld_23 <| And.intro @ld_24 <| And.intro @ld_26 <| And.intro @ld_3 <| And.intro @ld_9 <| And.intro @len_117 <| And.intro @part_3 <| And.intro @part_41 <| And.intro @part_72 <| And.intro @part_9 <| And.intro @size_117 <| And.intro @size_143 <| And.intro @size_22 <| And.intro @size_23 <| And.intro @size_24 <| And.intro @size_26 <| And.intro @size_3 <| And.intro @size_30 <| And.intro @size_41 <| And.intro @size_72 <| And.intro @size_9 <| And.intro @sp_30_0 <| And.intro @sp_30_1 <| And.intro @sp_72_0 <| And.intro @sp_72_1 <| And.intro @sp_72_2 <| And.intro @sp_72_3 <| And.intro @und_117 <| And.intro @und_143 <| And.intro @und_22 <| And.intro @und_23 <| And.intro @und_24 <| And.intro @zero_117 <| And.intro @zero_143 <| And.intro @zero_22 <| And.intro @zero_23 <| And.intro @zero_24 <| And.intro @zero_26 <| And.intro @zero_30 @zero_72

theorem parse_short {t : Bs} (h : (cutAt 10 t).length < 3) : parseB t = none := by
  unfold parseB
  rw [if_pos h]
theorem parse_bad {t : Bs} (h : itemsP (midB t) = none) : parseB t = none := by
  unfold parseB
  split
  · rfl
  · rw [h]
theorem parse_is {t : Bs} {l : List Item} (h3 : 3 ≤ (cutAt 10 t).length) (h : itemsP (midB t) = some l) : parseB t = if textB (sheetOf l) = t then some (sheetOf l) else none := by
  unfold parseB
  rw [if_neg (by omega), h]
theorem item_none {ws : List Bs} (h : pos (ws.headD []) wordList 0 = -1) : itemP ws = none := by
  unfold itemP
  rw [if_pos h]
theorem item_own {ws : List Bs} (h : pos (ws.headD []) wordList 0 = 0) : itemP ws = numO ws.tail := by
  unfold itemP
  rw [h]; rfl
theorem item_brd {ws : List Bs} (h : pos (ws.headD []) wordList 0 = 1) : itemP ws = numX ws.tail := by
  unfold itemP
  rw [h]; rfl
theorem item_tar {ws : List Bs} {p : Int} (h : pos (ws.headD []) wordList 0 = p) (h2 : 2 ≤ p) : itemP ws = (tarP p ws).map .t := by
  unfold itemP
  rw [h, if_neg (by omega), if_neg (by omega), if_neg (by omega)]

set_option maxRecDepth 10000 in
set_option maxHeartbeats 4000000 in
theorem parsed_95 {t : Bs} {h : Heap} (hk : HOK h) (hp : 0 < h.next) (hl : t.length ≤ 900) :
    CX CC 95 [.string (bs t)] h (fun r h' => ∃ s a b c, parseB t = some s ∧ r = .agg ⟨[a, b, c]⟩ ∧ Acc h.next h' a b c s ∧ Fr h h') fun e h' => parseB t = none ∧ noText e ∧ Fr h h' := by
  have hcl := cut_len 10 t
  refine CX_in Tryz.f95 (by kernel_rfl) (by kernel_rfl) rfl rfl ?_
  simp only [Tryz.f95, bs_mk]
  have f1 : Fr h (h.alloc (.row [.slice none 0 0, .slice none 0 0, .slice none 0 0] 0 true)) := (Fr.refl hk).alloc _
  have z1 : (h.alloc (.row [.slice none 0 0, .slice none 0 0, .slice none 0 0] 0 true)).get h.next = some (.row [.slice none 0 0, .slice none 0 0, .slice none 0 0] 0 true) := get_at _ rfl
  have n1 : h.next < (h.alloc (.row [.slice none 0 0, .slice none 0 0, .slice none 0 0] 0 true)).next := by simp
  simp (maxDischargeDepth := 30) only [AMS, AMH, ↓reduceIte, Nat.reduceLT, Nat.reduceEqDiff, Nat.reduceAdd, Nat.reduceMul, reduceCtorEq, decide_true, decide_false, Nat.reduceLeDiff, Int.reduceNe, Int.reduceEq, ne_eq, not_false_eq_true, and_self, F95_Am137, hk, bs_mk]
  generalize (h.alloc (.row [.slice none 0 0, .slice none 0 0, .slice none 0 0] 0 true)) = h1 at f1 z1 n1 ⊢
  have k1 := f1.ok
  refine W_call (split_128 (t := t) (c := 10) (by omega) k1 (by omega)) ?_
  rintro v h2 ⟨q2, fr2⟩
  have f2 := f1.trans fr2
  have k2 := f2.ok
  have z2 := fr2.get' k1 z1
  have hcp := cut_pos 10 t
  rcases q2 with ⟨_, _, e0⟩ | ⟨b, rfl, hb0, hN, hg, hlen⟩
  · omega
  obtain ⟨b, rfl⟩ : ∃ b', b = b' + 1 := ⟨b - 1, by omega⟩
  simp (maxDischargeDepth := 30) only [AMS, AMH, ↓reduceIte, Nat.reduceLT, Nat.reduceEqDiff, Nat.reduceAdd, Nat.reduceMul, reduceCtorEq, decide_true, decide_false, Nat.reduceLeDiff, Int.reduceNe, Int.reduceEq, ne_eq, not_false_eq_true, and_self, F95_Am137, k2]
  refine W_callX (need_129 _ _ k2) ?_ ?_
  rotate_left
  · rintro e h3 ⟨hb, nt, f3⟩
    simp only [PostX_panic]
    exact ⟨parse_short (by have : ((cutAt 10 t).length : Int) < 3 := by simpa using hb
                           omega), nt, f2.trans f3⟩
  rintro _ h3 ⟨hb, fr3⟩
  have h3' : 3 ≤ (cutAt 10 t).length := by
    have : (3 : Int) ≤ (cutAt 10 t).length := by simpa using hb
    omega
  clear hb
  have f3 := f2.trans fr3
  have k3 := f3.ok
  have z3 := fr3.get' k2 z2
  have g3 := fr3.get' k2 hg
  have hpz : h.next < h3.next := get_lt k3 z3
  have hbl := get_lt k3 g3
  have w2 := wrap64 (n := ((cutAt 10 t).length : Int) - 2) (by omega) (by omega)
  have s1 : aSlice CC 117 (.slice (some ⟨b + 1, 0, some 1⟩) (cutAt 10 t).length (cutAt 10 t).length) (some (.int .i64 1)) (some (.int .i64 (((cutAt 10 t).length : Int) - 2))) none = some (.slice (some ⟨b + 1, 1, some 1⟩) (midB t).length ((cutAt 10 t).length - 1)) := by
    rw [show ((cutAt 10 t).length : Int) - 2 = (((cutAt 10 t).length - 2 : Nat) : Int) by omega, mid_len t h3']
    have := sl_117 b 0 (cutAt 10 t).length (cutAt 10 t).length 1 ((cutAt 10 t).length - 2) (by omega) (by omega) (by omega)
    rw [show (cutAt 10 t).length - 2 - 1 = (cutAt 10 t).length - 3 by omega] at this
    exact this
  have lm : LS h3 (.slice (some ⟨b + 1, 1, some 1⟩) (midB t).length ((cutAt 10 t).length - 1)) (midB t) strC 1 := by
    have := LS.sub (h := h3) (b := b + 1) (ws := cutAt 10 t) 1 ((cutAt 10 t).length - 3) (c := (cutAt 10 t).length - 1) (sp := some 1) (by unfold rowAt; rw [g3]; rfl) (by omega)
    rw [mid_len t h3']
    exact this
  have zz : ∀ x, (h3.alloc x).get h.next = some (.row [.slice none 0 0, .slice none 0 0, .slice none 0 0] 0 true) := fun x => by rw [get_old _ hpz]; exact z3
  have ml := mid_len t h3'
  simp (maxDischargeDepth := 30) only [AMS, AMH, ↓reduceIte, Nat.reduceLT, Nat.reduceEqDiff, Nat.reduceAdd, Nat.reduceMul, reduceCtorEq, decide_true, decide_false, Nat.reduceLeDiff, Int.reduceNe, Int.reduceEq, ne_eq, not_false_eq_true, and_self, F95_Am137, k3, w2, s1, Option.map_some, Option.map_none]
  have fS : Fr h3 (h3.alloc (.row [.slice none 0 0, .slice none 0 0, .slice none 0 0] 0 true)) := (Fr.refl k3).alloc _
  have gS : (h3.alloc (.row [.slice none 0 0, .slice none 0 0, .slice none 0 0] 0 true)).get h3.next = some (.row [.slice none 0 0, .slice none 0 0, .slice none 0 0] 0 true) := get_at _ rfl
  refine W_loop (midB t).length (fun m f h' => ∃ i l v0 v1 v2, i ≤ (midB t).length ∧ m = (midB t).length - i ∧ f 0 = .string (bs t) ∧ f 2 = .pointer (some ⟨h.next, 0, none⟩) ∧ f 4 = .pointer (some ⟨h3.next, 0, none⟩) ∧ f 22 = .slice (some ⟨b + 1, 1, some 1⟩) (midB t).length ((cutAt 10 t).length - 1) ∧ f 23 = .int .i64 (midB t).length ∧ f 24 = .int .i64 i ∧
      itemsP ((midB t).take i) = some l ∧ h'.get h3.next = some (.row [v0, v1, v2] 0 true) ∧ Acc h3.next h' v0 v1 v2 (sheetOf l) ∧ Fr h3 h')
    ⟨0, [], _, _, _, by omega, by omega, by simp [upd_at, argsFn_at], by simp [upd_at], by simp [upd_at], by simp [upd_at], by simp [upd_at], by simp [upd_at], by simp [itemsP], gS, Acc.nil _ _, fS⟩ ?_
  clear gS fS s1 zz
  rintro m f h4 ⟨i, l, v0, v1, v2, hi, rfl, g0, g2, g4, g22, g23, g24, hits, gS, A, fr4⟩ ih
  have k4 := fr4.ok
  have hpS := get_lt k4 gS
  have hll := items_len hits
  have hsl := sheet_len l
  have hit : l.length ≤ 1000 := by rw [hll]; simp; omega
  by_cases hil : i < (midB t).length
  rotate_left
  · have : i = (midB t).length := by omega
    subst this
    rw [List.take_length] at hits
    clear ih
    have rS : rowAt h4 h3.next = some [v0, v1, v2] := by unfold rowAt; rw [gS]; rfl
    have hokS := okS_of (items_ok hits)
    simp (maxDischargeDepth := 30) only [AMS, AMH, ↓reduceIte, Nat.reduceLT, Nat.reduceEqDiff, Nat.reduceAdd, Nat.reduceMul, reduceCtorEq, decide_true, decide_false, Nat.reduceLeDiff, Int.reduceNe, Int.reduceEq, ne_eq, not_false_eq_true, and_self, F95_Am137, k4, g0, g2, g4, g22, g23, g24, lt_f, rS]
    refine W_callX (P := fun r h' => r = .string (bs (textB (sheetOf l))) ∧ Fr h4 h') (R := fun _ _ => False) ?_ ?_ (fun _ _ e => e.elim)
    · obtain ⟨v, h', e, p⟩ := text_93 k4 (by omega) A.sheet hokS (by omega) (by omega) (by omega)
      exact .inl ⟨v, h', e, p⟩
    rintro _ h5 ⟨rfl, fr5⟩
    have k5 := fr5.ok
    simp (maxDischargeDepth := 30) only [AMS, AMH, ↓reduceIte, Nat.reduceLT, Nat.reduceEqDiff, Nat.reduceAdd, Nat.reduceMul, reduceCtorEq, decide_true, decide_false, Nat.reduceLeDiff, Int.reduceNe, Int.reduceEq, ne_eq, not_false_eq_true, and_self, F95_Am137, k5, g0, s_eq]
    refine W_callX (need_129 _ _ k5) ?_ ?_
    rotate_left
    · rintro e h6 ⟨hb, nt, f6⟩
      simp only [PostX_panic]
      refine ⟨?_, nt, ((f3.trans fr4).trans fr5).trans f6⟩
      rw [parse_is h3' hits, if_neg (by simpa using hb)]
    rintro _ h6 ⟨hb, fr6⟩
    have ht : textB (sheetOf l) = t := by simpa using hb
    have f6 := ((f3.trans fr4).trans fr5).trans fr6
    have fr46 := fr5.trans fr6
    have k6 := f6.ok
    have r6 := fr46.row' k4 rS
    have z6 := (fr4.trans fr46).get' k3 z3
    have A6 := A.fr k4 fr46
    obtain ⟨p0, c0, e0⟩ := A6.sheet.offs.len
    obtain ⟨p1, c1, e1⟩ := A6.sheet.boards.len
    obtain ⟨p2, c2, e2⟩ := A6.sheet.tars.len
    rw [e0, e1, e2] at A6 r6
    simp (maxDischargeDepth := 30) only [AMS, AMH, ↓reduceIte, Nat.reduceLT, Nat.reduceEqDiff, Nat.reduceAdd, Nat.reduceMul, reduceCtorEq, decide_true, decide_false, Nat.reduceLeDiff, Int.reduceNe, Int.reduceEq, ne_eq, not_false_eq_true, and_self, F95_Am137, k6, g2, g4, r6, z6, PostX_ret]
    refine ⟨sheetOf l, _, _, _, by rw [parse_is h3' hits, if_pos ht], rfl, (A6.put z6 _).weak (by omega), f6.set (Nat.le_refl _) (get_lt k6 z6) _⟩
  obtain ⟨r, gr⟩ : ∃ n, (midB t)[i]? = some n := ⟨_, List.getElem?_eq_getElem hil⟩
  have hcell : ((cutAt 10 t).flatMap strC)[1 + i]? = some (.string (bs r)) := by
    refine strs_get ?_
    unfold midB at gr
    rw [List.getElem?_take_of_lt (by rw [← ml]; exact hil), List.getElem?_drop] at gr
    exact gr
  have hrl : r.length ≤ t.length := by
    have := List.mem_of_getElem? gr
    unfold midB at this
    exact cut_mem (List.mem_of_mem_drop (List.mem_of_mem_take this))
  have hrw := cut_len 32 r
  have g4' := fr4.get' k3 g3
  have rb4 : rowAt h4 (b + 1) = some ((cutAt 10 t).flatMap strC) := by unfold rowAt; rw [g4']; rfl
  simp (maxDischargeDepth := 30) only [AMS, AMH, ↓reduceIte, Nat.reduceLT, Nat.reduceEqDiff, Nat.reduceAdd, Nat.reduceMul, reduceCtorEq, decide_true, decide_false, Nat.reduceLeDiff, Int.reduceNe, Int.reduceEq, ne_eq, not_false_eq_true, and_self, F95_Am137, k4, g0, g2, g4, g22, g23, g24, lt_t hil, hil, Nat.mul_one, rb4, hcell]
  refine W_call (split_128 (t := r) (c := 32) (by omega) k4 (by omega)) ?_
  rintro v h5 ⟨q5, fr5⟩
  have k5 := fr5.ok
  have gS5 := fr5.get' k4 gS
  have A5 := A.fr k4 fr5
  have f35 := fr4.trans fr5
  have hwp := cut_pos 32 r
  rcases q5 with ⟨_, _, e0⟩ | ⟨c, rfl, hc0, hcN, hcg, hclen⟩
  · omega
  obtain ⟨c, rfl⟩ : ∃ b', c = b' + 1 := ⟨c - 1, by omega⟩
  obtain ⟨w, ws, hws⟩ : ∃ w ws, cutAt 32 r = w :: ws := by
    cases e : cutAt 32 r with
    | nil => rw [e] at hwp; simp at hwp
    | cons w ws => exact ⟨w, ws, rfl⟩
  have hbad : itemP (cutAt 32 r) = none → parseB t = none := fun e => parse_bad (items_bad gr e)
  have hgood : ∀ it, itemP (cutAt 32 r) = some it → itemsP ((midB t).take (i + 1)) = some (l ++ [it]) := fun it e => items_snoc gr hits e
  rw [hws] at hcg hclen hbad hgood hrw
  rw [hws]
  have rc5 : rowAt h5 (c + 1) = some ((w :: ws).flatMap strC) := by unfold rowAt; rw [hcg]; rfl
  simp (maxDischargeDepth := 30) only [AMS, AMH, ↓reduceIte, Nat.reduceLT, Nat.reduceEqDiff, Nat.reduceAdd, Nat.reduceMul, reduceCtorEq, decide_true, decide_false, Nat.reduceLeDiff, Int.reduceNe, Int.reduceEq, ne_eq, not_false_eq_true, and_self, F95_Am137, k5]
  refine W_call (words_124 k5) ?_
  rintro _ h6 ⟨rfl, fr6⟩
  have k6 := fr6.ok
  have g6 := fr6.get' k5 hcg
  have fr7 : Fr h6 ((h6.alloc (.row [.string ⟨⟨[]⟩⟩, .string ⟨⟨[]⟩⟩, .string ⟨⟨[]⟩⟩, .string ⟨⟨[]⟩⟩, .string ⟨⟨[]⟩⟩, .string ⟨⟨[]⟩⟩] 0 true)).set h6.next (.row (wordList.map fun w => .string (bs w)) 0 true)) := ((Fr.refl k6).alloc _).set (Nat.le_refl _) (by simp) _
  have y7 : rowAt ((h6.alloc (.row [.string ⟨⟨[]⟩⟩, .string ⟨⟨[]⟩⟩, .string ⟨⟨[]⟩⟩, .string ⟨⟨[]⟩⟩, .string ⟨⟨[]⟩⟩, .string ⟨⟨[]⟩⟩] 0 true)).set h6.next (.row (wordList.map fun w => .string (bs w)) 0 true)) h6.next = some (wordList.flatMap strC) := by rw [rowAt_set_self, words_flat]
  simp (maxDischargeDepth := 30) only [AMS, AMH, ↓reduceIte, Nat.reduceLT, Nat.reduceEqDiff, Nat.reduceAdd, Nat.reduceMul, reduceCtorEq, decide_true, decide_false, Nat.reduceLeDiff, Int.reduceNe, Int.reduceEq, ne_eq, not_false_eq_true, and_self, F95_Am137, k6, words_len, words_one, words_write]
  generalize ((h6.alloc (.row [.string ⟨⟨[]⟩⟩, .string ⟨⟨[]⟩⟩, .string ⟨⟨[]⟩⟩, .string ⟨⟨[]⟩⟩, .string ⟨⟨[]⟩⟩, .string ⟨⟨[]⟩⟩] 0 true)).set h6.next (.row (wordList.map fun w => .string (bs w)) 0 true)) = h7 at fr7 y7 ⊢
  have k7 := fr7.ok
  have f57 := fr6.trans fr7
  have f37 := f35.trans f57
  have g7 := fr7.get' k6 g6
  have gS7 := f57.get' k5 gS5
  have A7 := A5.fr k5 f57
  have r7 : rowAt h7 (c + 1) = some ((w :: ws).flatMap strC) := by unfold rowAt; rw [g7]; rfl
  have c0 : ((w :: ws).flatMap strC)[0]? = some (.string (bs w)) := rfl
  have i0 : aIndexAddr CC 117 (.slice (some ⟨c + 1, 0, some 1⟩) (ws.length + 1) (ws.length + 1)) (.int .i64 0) = some (.pointer (some ⟨c + 1, 0, none⟩)) := ix_117 (c + 1) 0 (some 1) (ws.length + 1) (ws.length + 1) 0 (by omega)
  refine W_draw [(true, 0), (true, 1), (true, 2), (true, 3), (true, 4), (true, 5)] (by kernel_rfl) ?_
  simp (maxDischargeDepth := 30) only [AMS, AMH, ↓reduceIte, Nat.reduceLT, Nat.reduceEqDiff, Nat.reduceAdd, Nat.reduceMul, reduceCtorEq, decide_true, decide_false, Nat.reduceLeDiff, Int.reduceNe, Int.reduceEq, ne_eq, not_false_eq_true, and_self, AMR, F95_Am137, k7, sl_143, i0, r7, c0, Option.map_none]
  have lw : LS h7 (.slice (some ⟨h6.next, 0, none⟩) 6 6) wordList strC 1 := LS.of_row (xs := wordList) strC_len y7
  refine W_callP (index_130 (x := w) k7 lw (by simp [wordList])) ?_
  rintro _ h7 ⟨rfl, rfl⟩
  have hpr := pos_lt w wordList 0
  have hlr : wordList.length = 6 := rfl
  rw [hlr] at hpr
  have ih1 : ∀ it, it = pos w wordList 0 → it = pos ((w :: ws).headD []) wordList 0 := fun it e => e
  obtain ⟨P, hP⟩ : ∃ P, P = pos w wordList 0 := ⟨_, rfl⟩
  rw [← hP] at hpr
  have hP' : pos ((w :: ws).headD []) wordList 0 = P := hP.symm
  clear ih1
  simp (maxDischargeDepth := 30) only [AMS, AMH, ↓reduceIte, Nat.reduceLT, Nat.reduceEqDiff, Nat.reduceAdd, Nat.reduceMul, reduceCtorEq, decide_true, decide_false, Nat.reduceLeDiff, Int.reduceNe, Int.reduceEq, ne_eq, not_false_eq_true, and_self, AMR, F95_Am137, k7, i0, r7, c0, ← hP]
  have sn : aSlice CC 117 (.slice (some ⟨c + 1, 0, some 1⟩) (ws.length + 1) (ws.length + 1)) (some (.int .i64 1)) none none = some (.slice (some ⟨c + 1, 1, some 1⟩) ws.length ws.length) := by
    have := sl_117n c 0 (ws.length + 1) (ws.length + 1) 1 (by omega) (by omega)
    simpa using this
  have ls : LS h7 (.slice (some ⟨c + 1, 1, some 1⟩) ws.length ws.length) ws strC 1 := by
    have := LS.sub (h := h7) (b := c + 1) (ws := w :: ws) 1 ws.length (c := ws.length) (sp := some 1) r7 (by simp; omega)
    simpa using this
  have lws : ws.length ≤ 1000 := by simp at hrw; omega
  have rS7 : rowAt h7 h3.next = some [v0, v1, v2] := by unfold rowAt; rw [gS7]; rfl
  obtain ⟨p0, q0, rfl⟩ := A7.sheet.offs.len
  obtain ⟨p1, q1, rfl⟩ := A7.sheet.boards.len
  obtain ⟨p2, q2, rfl⟩ := A7.sheet.tars.len
  have hN7 := f37.next
  by_cases hm1 : P = -1
  · have d1 : (P == (-1 : Int)) = true := by simp [hm1]
    simp (maxDischargeDepth := 30) only [AMS, AMH, ↓reduceIte, Nat.reduceLT, Nat.reduceEqDiff, Nat.reduceAdd, Nat.reduceMul, reduceCtorEq, decide_true, decide_false, Nat.reduceLeDiff, Int.reduceNe, Int.reduceEq, ne_eq, not_false_eq_true, and_self, F95_Am137, k7, d1]
    refine W_callX (need_129 _ _ k7) ?_ ?_
    · rintro _ h8 ⟨hb, _⟩; cases hb
    rintro e h8 ⟨hb, nt, f8⟩
    simp only [PostX_panic]
    exact ⟨hbad (item_none (hP'.trans hm1)), nt, (f3.trans f37).trans f8⟩
  have d1 : (P == (-1 : Int)) = false := by simp [hm1]
  by_cases hm0 : P = 0
  · have d2 : (P == (0 : Int)) = true := by simp [hm0]
    have ite := item_own (ws := w :: ws) (hP'.trans hm0)
    simp (maxDischargeDepth := 30) only [AMS, AMH, ↓reduceIte, Nat.reduceLT, Nat.reduceEqDiff, Nat.reduceAdd, Nat.reduceMul, reduceCtorEq, decide_true, decide_false, Nat.reduceLeDiff, Int.reduceNe, Int.reduceEq, ne_eq, not_false_eq_true, and_self, F95_Am137, k7, d1, d2]
    refine W_draw [(true, 0), (true, 1), (true, 2), (true, 3), (true, 4), (false, 1), (true, 5), (true, 6), (true, 7)] (by kernel_rfl) ?_
    simp (maxDischargeDepth := 30) only [AMS, AMH, ↓reduceIte, Nat.reduceLT, Nat.reduceEqDiff, Nat.reduceAdd, Nat.reduceMul, reduceCtorEq, decide_true, decide_false, Nat.reduceLeDiff, Int.reduceNe, Int.reduceEq, ne_eq, not_false_eq_true, and_self, AMR, F95_Am137, k7, g4, upd_at, rS7, sn, Option.map_some, Option.map_none]
    refine W_callPX (given_131 (many := 1) k7 (by omega) ls lws (by omega)) ?_ ?_
    rotate_left
    · rintro e h8 ⟨hb, nt, f8⟩
      simp only [PostX_panic]
      refine ⟨hbad (ite.trans ?_), nt, (f3.trans f37).trans f8⟩
      show numO ws = none
      unfold numO
      split
      · rw [if_neg]
        intro e
        simp [numsB, e] at hb
      · rfl
    rintro v h8 ⟨hb, q8, fr8⟩
    obtain ⟨x, rfl⟩ : ∃ x, ws = [x] := by
      simp only [numsB, Bool.and_eq_true] at hb
      have := Nat.eq_of_beq_eq_true hb.1
      match ws, this with
      | [x], _ => exact ⟨x, rfl⟩
    have hx : numB x = true := by simpa [numsB] using hb
    rcases q8 with ⟨_, e4, _⟩ | ⟨bl, rfl, _, hbl8, gl, _⟩
    · simp [vals, ints] at e4
    have gl : h8.get bl = some (.row [.int .i64 (valB x)] 1 true) := gl
    have k8 := fr8.ok
    have A8 := A7.fr k7 fr8
    have gS8 := fr8.get' k7 gS7
    have rS8 := fr8.row' k7 rS7
    have f38 := f37.trans fr8
    obtain ⟨v0', h9, e9, ⟨pa, pb, pc, rfl⟩, A9, k9, n9, g9, t9⟩ := A8.addO k8 f38.next (by have := f38.next; omega) (x := .slice (some ⟨bl, 0, some 1⟩) 1 1) (n := valB x) rfl (by
      show obind (rowAt h8 bl) (fun cells => take? cells 0 (1 * 1)) = _
      unfold rowAt; rw [gl]; rfl) (by omega)
    have gS9 := t9 _ _ gS8
    have f39 : Fr h3 h9 := ⟨k9, by have := f38.next; omega, fun i hi => (g9 i hi).trans (f38.get i hi)⟩
    simp (maxDischargeDepth := 30) only [AMS, AMH, ↓reduceIte, Nat.reduceLT, Nat.reduceEqDiff, Nat.reduceAdd, Nat.reduceMul, reduceCtorEq, decide_true, decide_false, Nat.reduceLeDiff, Int.reduceNe, Int.reduceEq, ne_eq, not_false_eq_true, and_self, AMR, F95_Am137, k8, g4, rS8, rS7, e9, k9, gS9, sn, upd_at, List.set_cons_zero, g24, wrap64 (n := (i : Int) + 1) (by omega) (by omega)]
    refine ih ((midB t).length - (i + 1)) _ _ (by omega) ?_
    have hnew := hgood (.o (valB x)) (ite.trans (by show (if numB x = true then some (Item.o (valB x)) else none) = _; rw [if_pos hx]))
    refine ⟨i + 1, _, _, _, _, by omega, rfl, by simp [upd_at, g0], by simp [upd_at, g2], by simp [upd_at, g4], by simp [upd_at, g22], by simp [upd_at, g23], by simp [upd_at], hnew, get_set_self' _ _ _, ?_, f39.set (Nat.le_refl _) (get_lt k9 gS9) _⟩
    rw [sheet_o]
    exact A9.put gS9 _
  have d2 : (P == (0 : Int)) = false := by simp [hm0]
  by_cases hm2 : P = 1
  · have d3 : (P == (1 : Int)) = true := by simp [hm2]
    have ite := item_brd (ws := w :: ws) (hP'.trans hm2)
    simp (maxDischargeDepth := 30) only [AMS, AMH, ↓reduceIte, Nat.reduceLT, Nat.reduceEqDiff, Nat.reduceAdd, Nat.reduceMul, reduceCtorEq, decide_true, decide_false, Nat.reduceLeDiff, Int.reduceNe, Int.reduceEq, ne_eq, not_false_eq_true, and_self, F95_Am137, k7, d1, d2, d3, sn, Option.map_some, Option.map_none]
    refine W_callX (given_131 (many := 5) k7 (by omega) ls lws (by omega)) ?_ ?_
    rotate_left
    · rintro e h8 ⟨hb, nt, f8⟩
      simp only [PostX_panic]
      refine ⟨hbad (ite.trans ?_), nt, (f3.trans f37).trans f8⟩
      show numX ws = none
      unfold numX
      split
      · rw [if_neg]
        rintro ⟨e1, e2, e3, e4, e5⟩
        simp [numsB, e1, e2, e3, e4, e5] at hb
      · rfl
    rintro v h8 ⟨hb, q8, fr8⟩
    obtain ⟨x1, x2, x3, x4, x5, rfl⟩ : ∃ x1 x2 x3 x4 x5, ws = [x1, x2, x3, x4, x5] := by
      simp only [numsB, Bool.and_eq_true] at hb
      have := Nat.eq_of_beq_eq_true hb.1
      match ws, this with
      | [x1, x2, x3, x4, x5], _ => exact ⟨x1, x2, x3, x4, x5, rfl⟩
    have hx : numB x1 = true ∧ numB x2 = true ∧ numB x3 = true ∧ numB x4 = true ∧ numB x5 = true := by simpa [numsB] using hb
    rcases q8 with ⟨_, e4, _⟩ | ⟨bl, rfl, _, hbl8, gl, _⟩
    · simp [vals, ints] at e4
    have gl : h8.get bl = some (.row [.int .i64 (valB x1), .int .i64 (valB x2), .int .i64 (valB x3), .int .i64 (valB x4), .int .i64 (valB x5)] 1 true) := gl
    have k8 := fr8.ok
    have A8 := A7.fr k7 fr8
    have gS8 := fr8.get' k7 gS7
    have rS8 := fr8.row' k7 rS7
    have f38 := f37.trans fr8
    simp (maxDischargeDepth := 30) only [AMS, AMH, ↓reduceIte, Nat.reduceLT, Nat.reduceEqDiff, Nat.reduceAdd, Nat.reduceMul, reduceCtorEq, decide_true, decide_false, Nat.reduceLeDiff, Int.reduceNe, Int.reduceEq, ne_eq, not_false_eq_true, and_self, F95_Am137, k8]
    refine W_draw [(true, 0), (true, 1), (true, 2), (true, 3), (true, 4), (true, 5), (true, 6), (true, 7), (true, 8), (true, 9), (true, 10), (true, 11), (true, 12), (true, 13), (true, 14), (true, 15), (true, 16), (true, 17), (true, 18), (true, 19), (true, 20), (true, 21), (true, 22)] (by kernel_rfl) ?_
    have rl8 : rowAt h8 bl = some [.int .i64 (valB x1), .int .i64 (valB x2), .int .i64 (valB x3), .int .i64 (valB x4), .int .i64 (valB x5)] := by unfold rowAt; rw [gl]; rfl
    have j0 : aIndexAddr CC 22 (.slice (some ⟨bl, 0, some 1⟩) 5 5) (.int .i64 0) = some (.pointer (some ⟨bl, 0, none⟩)) := ix_22 bl 0 (some 1) 5 5 0 (by omega)
    have j1 : aIndexAddr CC 22 (.slice (some ⟨bl, 0, some 1⟩) 5 5) (.int .i64 1) = some (.pointer (some ⟨bl, 1, none⟩)) := ix_22 bl 0 (some 1) 5 5 1 (by omega)
    have j2 : aIndexAddr CC 22 (.slice (some ⟨bl, 0, some 1⟩) 5 5) (.int .i64 2) = some (.pointer (some ⟨bl, 2, none⟩)) := ix_22 bl 0 (some 1) 5 5 2 (by omega)
    have j3 : aIndexAddr CC 22 (.slice (some ⟨bl, 0, some 1⟩) 5 5) (.int .i64 3) = some (.pointer (some ⟨bl, 3, none⟩)) := ix_22 bl 0 (some 1) 5 5 3 (by omega)
    have j4 : aIndexAddr CC 22 (.slice (some ⟨bl, 0, some 1⟩) 5 5) (.int .i64 4) = some (.pointer (some ⟨bl, 4, none⟩)) := ix_22 bl 0 (some 1) 5 5 4 (by omega)
    have bsx : aBuildSlice CC 23 1 [(0, .agg ⟨[.int .i64 (valB x1), .int .i64 (valB x2), .int .i64 (valB x3), .int .i64 (valB x4), .int .i64 (valB x5)]⟩)] = some (.new (.row [.int .i64 (valB x1), .int .i64 (valB x2), .int .i64 (valB x3), .int .i64 (valB x4), .int .i64 (valB x5)] 5 true) (sliceTo 5 1 1)) := bs_23b ⟨valB x1, valB x2, valB x3, valB x4, valB x5⟩
    have kA := k8.alloc (.row [.int .i64 (valB x1), .int .i64 (valB x2), .int .i64 (valB x3), .int .i64 (valB x4), .int .i64 (valB x5)] 5 true)
    have frA := (Fr.refl k8).alloc (.row [.int .i64 (valB x1), .int .i64 (valB x2), .int .i64 (valB x3), .int .i64 (valB x4), .int .i64 (valB x5)] 5 true)
    obtain ⟨v1', h9, e9, ⟨pa, pb, pc, rfl⟩, A9, k9, n9, g9, t9⟩ := (A8.fr k8 frA).addB kA (by have := f38.next; simp; omega) (by simp) (x := .slice (some ⟨h8.next, 0, some 5⟩) 1 1) (n := ⟨valB x1, valB x2, valB x3, valB x4, valB x5⟩) rfl (by
      show obind (rowAt _ h8.next) (fun cells => take? cells 0 (1 * 5)) = _
      rw [rowAt_new]; rfl) (by omega)
    have gSA : (h8.alloc (.row [.int .i64 (valB x1), .int .i64 (valB x2), .int .i64 (valB x3), .int .i64 (valB x4), .int .i64 (valB x5)] 5 true)).get h3.next = some (.row [.slice p0 (sheetOf l).offs.length q0, .slice p1 (sheetOf l).boards.length q1, .slice p2 (sheetOf l).tars.length q2] 0 true) := by rw [get_old _ (get_lt k8 gS8)]; exact gS8
    have gS9 := t9 _ _ gSA
    have rS9 : rowAt h9 h3.next = some [.slice p0 (sheetOf l).offs.length q0, .slice p1 (sheetOf l).boards.length q1, .slice p2 (sheetOf l).tars.length q2] := by unfold rowAt; rw [gS9]; rfl
    have f39 : Fr h3 h9 := ⟨k9, by have := f38.next; simp at n9; omega, fun i hi => (g9 i hi).trans ((f38.trans frA).get i hi)⟩
    simp (maxDischargeDepth := 30) only [AMS, AMH, ↓reduceIte, Nat.reduceLT, Nat.reduceEqDiff, Nat.reduceAdd, Nat.reduceMul, reduceCtorEq, decide_true, decide_false, Nat.reduceLeDiff, Int.reduceNe, Int.reduceEq, ne_eq, not_false_eq_true, and_self, AMR, F95_Am137, k8, g4, rS8, rl8, j0, j1, j2, j3, j4, bsx, e9, k9, gS9, rS9, upd_at, List.set_cons_zero, List.set_cons_succ, g24, wrap64 (n := (i : Int) + 1) (by omega) (by omega)]
    refine ih ((midB t).length - (i + 1)) _ _ (by omega) ?_
    have hnew := hgood (.b ⟨valB x1, valB x2, valB x3, valB x4, valB x5⟩) (ite.trans (by
      show (if numB x1 = true ∧ numB x2 = true ∧ numB x3 = true ∧ numB x4 = true ∧ numB x5 = true then some (Item.b ⟨valB x1, valB x2, valB x3, valB x4, valB x5⟩) else none) = _
      rw [if_pos hx]))
    refine ⟨i + 1, _, _, _, _, by omega, rfl, by simp [upd_at, g0], by simp [upd_at, g2], by simp [upd_at, g4], by simp [upd_at, g22], by simp [upd_at, g23], by simp [upd_at], hnew, get_set_self' _ _ _, ?_, f39.set (Nat.le_refl _) (get_lt k9 gS9) _⟩
    rw [sheet_b]
    exact A9.put gS9 _
  have d3 : (P == (1 : Int)) = false := by simp [hm2]
  have hP2 : 2 ≤ P ∧ P ≤ 5 := by omega
  have ite := item_tar (ws := w :: ws) hP' hP2.1
  have q7 : SL 0 h7 (.slice (some ⟨c + 1, 0, some 1⟩) (ws.length + 1) (ws.length + 1)) ((w :: ws).flatMap strC) 1 (w :: ws).length := .inr ⟨c + 1, rfl, by omega, Nat.zero_le _, g7, by rw [flat_len strC_len]⟩
  simp (maxDischargeDepth := 30) only [AMS, AMH, ↓reduceIte, Nat.reduceLT, Nat.reduceEqDiff, Nat.reduceAdd, Nat.reduceMul, reduceCtorEq, decide_true, decide_false, Nat.reduceLeDiff, Int.reduceNe, Int.reduceEq, ne_eq, not_false_eq_true, and_self, F95_Am137, k7, d1, d2, d3]
  refine W_draw [(true, 0), (true, 1), (true, 2), (true, 3), (true, 4), (false, 1), (true, 5), (true, 6), (true, 7), (true, 8)] (by kernel_rfl) ?_
  simp (maxDischargeDepth := 30) only [AMS, AMH, ↓reduceIte, Nat.reduceLT, Nat.reduceEqDiff, Nat.reduceAdd, Nat.reduceMul, reduceCtorEq, decide_true, decide_false, Nat.reduceLeDiff, Int.reduceNe, Int.reduceEq, ne_eq, not_false_eq_true, and_self, AMR, F95_Am137, k7, g4, rS7, upd_at]
  refine W_callPX (tariff_132 k7 (by omega) q7 (by simp) (by simp only [List.length_cons] at hrw ⊢; omega) hP2) ?_ ?_
  rotate_left
  · rintro e h8 ⟨hb, nt, f8⟩
    simp only [PostX_panic]
    exact ⟨hbad (by rw [ite, hb]; rfl), nt, (f3.trans f37).trans f8⟩
  rintro _ h8 ⟨x, hx, rfl, fr8⟩
  have k8 := fr8.ok
  have A8 := A7.fr k7 fr8
  have gS8 := fr8.get' k7 gS7
  have rS8 := fr8.row' k7 rS7
  have f38 := f37.trans fr8
  have bsx : aBuildSlice CC 24 1 [(0, .agg ⟨x.cells⟩)] = some (.new (.row x.cells 5 true) (sliceTo 5 1 1)) := by obtain ⟨a, b, c, d, e⟩ := x; kernel_rfl
  have kA := k8.alloc (.row x.cells 5 true)
  have frA := (Fr.refl k8).alloc (.row x.cells 5 true)
  have xs : x.cells.all selfC = true := rfl
  obtain ⟨v2', h9, e9, ⟨pa, pb, pc, rfl⟩, A9, k9, n9, g9, t9⟩ := (A8.fr k8 frA).addT kA (by have := f38.next; simp; omega) (by simp) (x := .slice (some ⟨h8.next, 0, some 5⟩) 1 1) (n := x) rfl (by
    show obind (rowAt _ h8.next) (fun cells => take? cells 0 (1 * 5)) = _
    rw [rowAt_new]; rfl) (by omega)
  have gSA : (h8.alloc (.row x.cells 5 true)).get h3.next = some (.row [.slice p0 (sheetOf l).offs.length q0, .slice p1 (sheetOf l).boards.length q1, .slice p2 (sheetOf l).tars.length q2] 0 true) := by rw [get_old _ (get_lt k8 gS8)]; exact gS8
  have gS9 := t9 _ _ gSA
  have rS9 : rowAt h9 h3.next = some [.slice p0 (sheetOf l).offs.length q0, .slice p1 (sheetOf l).boards.length q1, .slice p2 (sheetOf l).tars.length q2] := by unfold rowAt; rw [gS9]; rfl
  have f39 : Fr h3 h9 := ⟨k9, by have := f38.next; simp at n9; omega, fun i hi => (g9 i hi).trans ((f38.trans frA).get i hi)⟩
  simp (maxDischargeDepth := 30) only [AMS, AMH, ↓reduceIte, Nat.reduceLT, Nat.reduceEqDiff, Nat.reduceAdd, Nat.reduceMul, reduceCtorEq, decide_true, decide_false, Nat.reduceLeDiff, Int.reduceNe, Int.reduceEq, ne_eq, not_false_eq_true, and_self, AMR, F95_Am137, k8, g4, rS8, bsx, e9, k9, gS9, rS9, xs, upd_at, List.set_cons_zero, List.set_cons_succ, g24, wrap64 (n := (i : Int) + 1) (by omega) (by omega)]
  refine ih ((midB t).length - (i + 1)) _ _ (by omega) ?_
  have hnew := hgood (.t x) (by rw [ite, hx]; rfl)
  refine ⟨i + 1, _, _, _, _, by omega, rfl, by simp [upd_at, g0], by simp [upd_at, g2], by simp [upd_at, g4], by simp [upd_at, g22], by simp [upd_at, g23], by simp [upd_at], hnew, get_set_self' _ _ _, ?_, f39.set (Nat.le_refl _) (get_lt k9 gS9) _⟩
  rw [sheet_t]
  exact A9.put gS9 _
end Go.Am
