/- Parts P8, P9 of the abstract machine over this program, joined: what each part says stands at its head. -/
import Derived.Test.YtfnllpibhjikgaaGreatDoorJP6
set_option linter.unusedSimpArgs false
set_option linter.unusedVariables false
/- The abstract machine over this program: reading a line: the entry of a line, what gives up, Parse. -/
namespace Go.Am
open Go Go.Proofs
theorem F9_P8 : type_of% (And.intro @bld_25 <| And.intro @fld_25_0 <| And.intro @fld_25_1 <| And.intro @ld_25 <| And.intro @ld_9 <| And.intro @len_9 <| And.intro @size_25 <| And.intro @sp_25_0 <| And.intro @sp_25_1 @zero_25) := And.intro @bld_25 <| And.intro @fld_25_0 <| And.intro @fld_25_1 <| And.intro @ld_25 <| And.intro @ld_9 <| And.intro @len_9 <| And.intro @size_25 <| And.intro @sp_25_0 <| And.intro @sp_25_1 @zero_25
theorem F22_P8 : type_of% (And.intro @ld_4 <| And.intro @size_4 <| And.intro @und_4 @zero_4) := And.intro @ld_4 <| And.intro @size_4 <| And.intro @und_4 @zero_4
theorem F24_P8 : type_of% (And.intro @bld_25 <| And.intro @fld_25_0 <| And.intro @fld_25_1 <| And.intro @ld_25 <| And.intro @size_25 <| And.intro @sp_25_0 <| And.intro @sp_25_1 @zero_25) := And.intro @bld_25 <| And.intro @fld_25_0 <| And.intro @fld_25_1 <| And.intro @ld_25 <| And.intro @size_25 <| And.intro @sp_25_0 <| And.intro @sp_25_1 @zero_25
theorem F54_P8 : type_of% (And.intro @size_124 <| And.intro @size_4 <| And.intro @und_4 <| And.intro @zero_124 @zero_4) := And.intro @size_124 <| And.intro @size_4 <| And.intro @und_4 <| And.intro @zero_124 @zero_4

/-- the entry of a line -/
def entryB (t : Bs) : Option (Int × List Int) := match partedB t with
  | none => none
  | some x => if x.1 ≤ 12 ∧ formed (1 + x.1) x.2 = true then some (1 + x.1, x.2) else none
theorem parted_le {t : Bs} {i : Int} {l : List Int} (h : partedB t = some (i, l)) : 0 ≤ i ∧ i < 29 := by
  unfold partedB at h
  split at h
  · cases h
  · rename_i w ws _
    split at h
    · cases h
    · split at h
      · cases h
        rename_i hp _
        have : ∀ (l : List Bs) (k : Nat), pos w l k ≠ -1 → (k : Int) ≤ pos w l k ∧ pos w l k < (k : Int) + l.length := by
          intro l
          induction l with
          | nil => intro k h; exact absurd rfl h
          | cons v r ih =>
            intro k h
            unfold pos at h ⊢
            split
            · simp; omega
            · rename_i hv
              rw [if_neg hv] at h
              have := ih (k + 1) h
              simp at this ⊢; omega
        have := this wordL 0 hp
        rw [wordL_len] at this
        omega
      · cases h
theorem SL.set_low {N p : Nat} {h : Heap} {v : Value} {l : List Value} {s n : Nat} (q : SL N h v l s n) (hk : HOK h) (hp : p < N) (x : AObj) : SL N (h.set p x) v l s n :=
  q.keep fun b hb => Heap.get_set_ne _ _ (by have := (q.blk_lt hk hb).1; omega)

set_option maxRecDepth 10000 in
set_option maxHeartbeats 1000000 in
theorem entry_p {t : Bs} {h : Heap} (hk : HOK h) (hp : 0 < h.next) (ht : t.length ≤ 900) :
    CX CC 24 [.string (bs t)] h (fun r h' => ∃ k l v, entryB t = some (k, l) ∧ r = .agg ⟨[.int .i64 k, v]⟩ ∧ SL h.next h' v (l.flatMap ints) 1 l.length ∧ Fr h h') fun e h' => entryB t = none ∧ refused e ∧ Fr h h' := by
  refine CX_in Tryz.f24 (by kernel_rfl) (by kernel_rfl) rfl rfl ?_
  simp only [Tryz.f24, bs_mk]
  have f1 : Fr h (h.alloc (.row [.int .i64 0, .slice none 0 0] 0 true)) := (Fr.refl hk).alloc _
  have z1 : (h.alloc (.row [.int .i64 0, .slice none 0 0] 0 true)).get h.next = some (.row [.int .i64 0, .slice none 0 0] 0 true) := get_at _ rfl
  have n1 : (h.alloc (.row [.int .i64 0, .slice none 0 0] 0 true)).next = h.next + 1 := by simp
  simp (maxDischargeDepth := 30) only [AMS, AMH, ↓reduceIte, Nat.reduceLT, Nat.reduceEqDiff, Nat.reduceAdd, Nat.reduceMul, reduceCtorEq, decide_true, decide_false, Nat.reduceLeDiff, Int.reduceNe, Int.reduceEq, ne_eq, not_false_eq_true, and_self, F24_P8, hk, bs_mk]
  generalize (h.alloc (.row [.int .i64 0, .slice none 0 0] 0 true)) = h1 at f1 z1 n1 ⊢
  have k1 := f1.ok
  refine W_callX (parted_p k1 (by omega) ht) ?_ ?_
  rotate_left
  · rintro e h2 ⟨hb, nt, fr2⟩
    simp only [PostX_panic]
    exact ⟨by unfold entryB; rw [hb], nt, f1.trans fr2⟩
  rintro _ h2 ⟨i, l, v, hb, rfl, q, hl9, fr2⟩
  have f2 := f1.trans fr2
  have k2 := f2.ok
  obtain ⟨hi0, hi1⟩ := parted_le hb
  have z2 := fr2.get' k1 z1
  have hE : entryB t = if i ≤ 12 ∧ formed (1 + i) l = true then some (1 + i, l) else none := by unfold entryB; rw [hb]
  have w1 : IntKind.i64.wrap (1 + i) = 1 + i := wrap64 (by omega) (by omega)
  obtain ⟨p, c, rfl⟩ := q.value
  have fs : Fr h2 ((h2.alloc (.row [.int .i64 0, .slice none 0 0] 0 true)).set h2.next (.row [.int .i64 (1 + i), .slice p l.length c] 0 true)) := ((Fr.refl k2).alloc _).set (Nat.le_refl _) (by simp) _
  have rs : rowAt ((h2.alloc (.row [.int .i64 0, .slice none 0 0] 0 true)).set h2.next (.row [.int .i64 (1 + i), .slice p l.length c] 0 true)) h2.next = some [.int .i64 (1 + i), .slice p l.length c] := rowAt_set_self _ _ _ _ _
  by_cases h12 : i ≤ 12
  rotate_left
  · have d1 : decide (i ≤ 12) = false := decide_eq_false h12
    simp (maxDischargeDepth := 30) only [AMS, AMH, ↓reduceIte, Nat.reduceLT, Nat.reduceEqDiff, Nat.reduceAdd, Nat.reduceMul, reduceCtorEq, decide_true, decide_false, Nat.reduceLeDiff, Int.reduceNe, Int.reduceEq, ne_eq, not_false_eq_true, and_self, F24_P8, k2, w1, d1, List.set_cons_zero]
    refine W_callX (must_p _ _ fs.ok) ?_ ?_
    · rintro _ h3 ⟨hb, _⟩; cases hb
    · rintro e h3 ⟨_, nt, f3⟩
      simp only [PostX_panic]
      exact ⟨by rw [hE, if_neg fun q => h12 q.1], nt, (f2.trans fs).trans f3⟩
  have d1 : decide (i ≤ 12) = true := decide_eq_true h12
  simp (maxDischargeDepth := 30) only [AMS, AMH, ↓reduceIte, Nat.reduceLT, Nat.reduceEqDiff, Nat.reduceAdd, Nat.reduceMul, reduceCtorEq, decide_true, decide_false, Nat.reduceLeDiff, Int.reduceNe, Int.reduceEq, ne_eq, not_false_eq_true, and_self, F24_P8, k2, w1, d1, List.set_cons_zero]
  generalize ((h2.alloc (.row [.int .i64 0, .slice none 0 0] 0 true)).set h2.next (.row [.int .i64 (1 + i), .slice p l.length c] 0 true)) = h3 at fs rs ⊢
  have k3 := fs.ok
  have q3 := q.fr k2 fs
  refine W_call (isFormed_p k3 (SL.ls ints_len q3) (by omega)) ?_
  rintro _ h4 ⟨rfl, fr4⟩
  have k4 := fr4.ok
  have f4 := (f2.trans fs).trans fr4
  simp (maxDischargeDepth := 30) only [AMS, AMH, ↓reduceIte, Nat.reduceLT, Nat.reduceEqDiff, Nat.reduceAdd, Nat.reduceMul, reduceCtorEq, decide_true, decide_false, Nat.reduceLeDiff, Int.reduceNe, Int.reduceEq, ne_eq, not_false_eq_true, and_self, F24_P8, k4]
  refine W_callX (must_p _ _ k4) ?_ ?_
  rotate_left
  · rintro e h5 ⟨hb, nt, f5⟩
    simp only [PostX_panic]
    exact ⟨by rw [hE, if_neg fun q => by rw [hb] at q; exact absurd q.2 (by decide)], nt, f4.trans f5⟩
  rintro _ h5 ⟨hfo, fr5⟩
  have f5 := f4.trans fr5
  have k5 := f5.ok
  have z5 := (((fs.trans fr4).trans fr5).get' k2 z2)
  have r5 := fr5.row' k4 (fr4.row' k3 rs)
  have q5 := (q3.fr k3 fr4).fr k4 fr5
  simp (maxDischargeDepth := 30) only [AMS, AMH, ↓reduceIte, Nat.reduceLT, Nat.reduceEqDiff, Nat.reduceAdd, Nat.reduceMul, reduceCtorEq, decide_true, decide_false, Nat.reduceLeDiff, Int.reduceNe, Int.reduceEq, ne_eq, not_false_eq_true, and_self, F24_P8, k5, r5, z5, PostX_ret]
  refine ⟨1 + i, l, _, by rw [hE, if_pos ⟨h12, hfo⟩], by first | rfl | trivial, (q5.set_low k5 (by omega) _).weak (by omega), f5.set (Nat.le_refl _) (get_lt k5 z5) _⟩

set_option maxRecDepth 10000 in
theorem parse1_p {t : Bs} {px pS : Nat} {L : List Value} {h : Heap} (hk : HOK h) (hp : 0 < h.next) (hl : t.length ≤ 900) (gx : rowAt h px = some [.string (bs t)]) (hL : L.length = 2) (gS : h.get pS = some (.row L 0 true)) :
    CX CC 23 [.pointer (some ⟨px, 0, none⟩), .pointer (some ⟨pS, 0, none⟩)] h (fun _ h' => (∃ k l v, entryB t = some (k, l) ∧ h'.get pS = some (.row [.int .i64 k, v] 0 true) ∧ SL h.next h' v (l.flatMap ints) 1 l.length) ∧ HOK h' ∧ h.next ≤ h'.next ∧ ∀ i, i < h.next → i ≠ pS → h'.get i = h.get i)
      fun e h' => entryB t = none ∧ refused e ∧ Fr h h' := by
  refine CX_in Tryz.f23 (by kernel_rfl) (by kernel_rfl) rfl rfl ?_
  simp only [Tryz.f23]
  simp (maxDischargeDepth := 30) only [AMS, AMH, ↓reduceIte, Nat.reduceLT, Nat.reduceEqDiff, Nat.reduceAdd, Nat.reduceMul, reduceCtorEq, decide_true, decide_false, Nat.reduceLeDiff, Int.reduceNe, Int.reduceEq, ne_eq, not_false_eq_true, and_self, ld_9, size_25, zero_25, hk, gx]
  refine W_callX (entry_p hk hp hl) ?_ ?_
  rotate_left
  · rintro e h1 ⟨hb, nt, f1⟩
    simp only [PostX_panic]
    exact ⟨hb, nt, f1⟩
  rintro _ h1 ⟨k, l, v, hs, rfl, A, f1⟩
  have g1 := f1.get' hk gS
  have k1 := f1.ok
  have pl := get_lt hk gS
  obtain ⟨p, c, rfl⟩ := A.value
  have hw : write? L 0 [.int .i64 k, .slice p l.length c] = some [.int .i64 k, .slice p l.length c] := write_all _ _ (by rw [hL]; rfl)
  simp (maxDischargeDepth := 30) only [AMS, AMH, ↓reduceIte, Nat.reduceLT, Nat.reduceEqDiff, Nat.reduceAdd, Nat.reduceMul, reduceCtorEq, decide_true, decide_false, Nat.reduceLeDiff, Int.reduceNe, Int.reduceEq, ne_eq, not_false_eq_true, and_self, ld_9, size_25, zero_25, k1, g1, hw, PostX_end]
  refine ⟨⟨k, l, _, hs, by first | rfl | trivial, A.set_low k1 pl _⟩, k1.set (get_lt k1 g1) _, f1.next, fun i hi hne => ?_⟩
  rw [Heap.get_set_ne _ _ hne]; exact f1.get i hi

theorem as_124 (v : Value) : aTypeAssert CC (.iface 124 v) 124 true = some (.tuple ⟨[v, .bool true]⟩) := by kernel_rfl
theorem ne_20 (c : Bool) (t : TypeId) (v : Value) : aBin CC .neq 20 c (.iface t v) .nilIface = some (.bool true) := by cases c <;> kernel_rfl
theorem ne_20n (t : Tmp) : aBin CC .neq 20 (isConstO (.tmp t) || isConstO (.const .nilIface)) .nilIface .nilIface = some (.bool false) := by kernel_rfl
set_option maxRecDepth 10000 in
theorem can1_ok (p : Nat) (h : Heap) (hk : HOK h) : ∃ v h', callPlain CC (Lim CC) 54 [.pointer (some ⟨p, 0, none⟩)] h none = some (.ret v h' none) ∧ h' = h := by
  refine plain_of Tryz.f54 (Q := fun _ h' => h' = h) (by kernel_rfl) rfl rfl ?_
  simp only [Tryz.f54]
  simp (maxDischargeDepth := 30) only [AMS, AMH, ↓reduceIte, Nat.reduceLT, Nat.reduceEqDiff, Nat.reduceAdd, Nat.reduceMul, reduceCtorEq, decide_true, decide_false, Nat.reduceLeDiff, Int.reduceNe, Int.reduceEq, ne_eq, not_false_eq_true, and_self, F54_P8, hk, O_recover0, ne_20n, Post_end]
set_option maxRecDepth 10000 in
theorem can1_no (p : Nat) (s : ByteArray) (x : Value) (h : Heap) (hk : HOK h) (hp : h.get p = some (.row [x] 0 true)) :
    ∃ v h', callPlain CC (Lim CC) 54 [.pointer (some ⟨p, 0, none⟩)] h (some (.iface 124 (.agg ⟨[.string s]⟩))) = some (.ret v h' none) ∧
      rowAt h' p = some [.bool false] ∧ HOK h' ∧ h.next ≤ h'.next ∧ ∀ j, j < h.next → j ≠ p → h'.get j = h.get j := by
  have ml := get_lt hk hp
  refine plain_of Tryz.f54 (Q := fun _ h' => rowAt h' p = some [.bool false] ∧ HOK h' ∧ h.next ≤ h'.next ∧ ∀ j, j < h.next → j ≠ p → h'.get j = h.get j) (by kernel_rfl) rfl rfl ?_
  simp only [Tryz.f54]
  have f1 : Fr h ((h.alloc (.row [.string ⟨⟨[]⟩⟩] 0 true)).set h.next (.row [.string s] 0 true)) := ((Fr.refl hk).alloc _).set (Nat.le_refl _) (by simp) _
  simp (maxDischargeDepth := 30) only [AMS, AMH, ↓reduceIte, Nat.reduceLT, Nat.reduceEqDiff, Nat.reduceAdd, Nat.reduceMul, reduceCtorEq, decide_true, decide_false, Nat.reduceLeDiff, Int.reduceNe, Int.reduceEq, ne_eq, not_false_eq_true, and_self, F54_P8, hk, O_recover, ne_20, as_124, List.set_cons_zero]
  generalize ((h.alloc (.row [.string ⟨⟨[]⟩⟩] 0 true)).set h.next (.row [.string s] 0 true)) = h1 at f1 ⊢
  have p1 := f1.get' hk hp
  have n1 := f1.next
  simp (maxDischargeDepth := 30) only [AMS, AMH, ↓reduceIte, Nat.reduceLT, Nat.reduceEqDiff, Nat.reduceAdd, Nat.reduceMul, reduceCtorEq, decide_true, decide_false, Nat.reduceLeDiff, Int.reduceNe, Int.reduceEq, ne_eq, not_false_eq_true, and_self, F54_P8, f1.ok, p1, List.set_cons_zero, Post_end]
  refine ⟨by first | trivial | exact rowAt_set_self _ _ _ _ _, by first | trivial | exact f1.ok.set (by omega) _, by first | trivial | exact f1.ok.set (by omega) _ | exact n1, ?_⟩
  intro j hj a
  rw [Heap.get_set_ne _ _ a]; exact f1.get j hj

set_option maxRecDepth 10000 in
set_option maxHeartbeats 1000000 in
theorem can_p {t : Bs} {px pS : Nat} {L : List Value} {h : Heap} (hk : HOK h) (hp : 0 < h.next) (hl : t.length ≤ 900) (gx : rowAt h px = some [.string (bs t)]) (hL : L.length = 2) (gS : h.get pS = some (.row L 0 true)) :
    CW CC 22 [.func (.func 23) ⟨[]⟩ ⟨[.pointer (some ⟨px, 0, none⟩), .pointer (some ⟨pS, 0, none⟩)]⟩] h fun r h' =>
      ((∃ k l v, entryB t = some (k, l) ∧ r = .bool true ∧ h'.get pS = some (.row [.int .i64 k, v] 0 true) ∧ SL h.next h' v (l.flatMap ints) 1 l.length) ∨ (entryB t = none ∧ r = .bool false)) ∧
      HOK h' ∧ h.next ≤ h'.next ∧ ∀ i, i < h.next → i ≠ pS → h'.get i = h.get i := by
  have pS0 := get_lt hk gS
  have key : W (Lim CC none [.code Tryz.f22.body.get!] ⟨T 6 (argsFn [.func (.func 23) ⟨[]⟩ ⟨[.pointer (some ⟨px, 0, none⟩), .pointer (some ⟨pS, 0, none⟩)]⟩]), [], none⟩ h) fun r s h' =>
      s.defers = [{ target := .fn (.func 54) ⟨[.pointer (some ⟨h.next, 0, none⟩)]⟩, args := ⟨[]⟩ }] ∧ s.pan = none ∧ (∃ f, s.tmps = T 6 f ∧ f 2 = .pointer (some ⟨h.next, 0, none⟩)) ∧
      HOK h' ∧ h.next + 1 ≤ h'.next ∧ (∀ i, i < h.next → i ≠ pS → h'.get i = h.get i) ∧
      ((r = .ended (some .ret) ∧ rowAt h' h.next = some [.bool true] ∧ ∃ k l v, entryB t = some (k, l) ∧ h'.get pS = some (.row [.int .i64 k, v] 0 true) ∧ SL h.next h' v (l.flatMap ints) 1 l.length) ∨ ∃ i, r = .panic (.iface 124 (.agg ⟨[.string i]⟩)) ∧ h'.get h.next = some (.row [.bool false] 0 true) ∧ entryB t = none) := by
    simp only [Tryz.f22, Option.get!]
    have f0 : Fr h (h.alloc (.row [.bool false] 0 true)) := (Fr.refl hk).alloc _
    have z1 : (h.alloc (.row [.bool false] 0 true)).get h.next = some (.row [.bool false] 0 true) := get_at _ rfl
    have n0 : (h.alloc (.row [.bool false] 0 true)).next = h.next + 1 := by simp
    simp (maxDischargeDepth := 30) only [AMS, AMH, ↓reduceIte, Nat.reduceLT, Nat.reduceEqDiff, Nat.reduceAdd, Nat.reduceMul, reduceCtorEq, decide_true, decide_false, Nat.reduceLeDiff, Int.reduceNe, Int.reduceEq, ne_eq, not_false_eq_true, and_self, F22_P8, hk, O_defer, ROr_defer, V_clo]
    generalize (h.alloc (.row [.bool false] 0 true)) = h1 at f0 z1 n0 ⊢
    refine W_callX (parse1_p f0.ok (by omega) hl (f0.row' hk gx) hL (f0.get' hk gS)) ?_ ?_
    · rintro v h2 ⟨⟨k, l, w, hs, g2, A⟩, k2, n2, fr2⟩
      have y1 : h2.get h.next = some (.row [.bool false] 0 true) := by rw [fr2 _ (by omega) (by omega)]; exact z1
      simp (maxDischargeDepth := 30) only [AMS, AMH, ↓reduceIte, Nat.reduceLT, Nat.reduceEqDiff, Nat.reduceAdd, Nat.reduceMul, reduceCtorEq, decide_true, decide_false, Nat.reduceLeDiff, Int.reduceNe, Int.reduceEq, ne_eq, not_false_eq_true, and_self, F22_P8, k2, y1, List.set_cons_zero]
      refine ⟨trivial, trivial, ⟨_, rfl, by simp [upd_at]⟩, k2.set (by omega) _, by first | omega | (simp only [Heap.next_set]; omega), fun i hi hne => ?_, .inl ⟨trivial, by first | trivial | exact rowAt_set_self _ _ _ _ _, k, l, w, hs, ?_, (A.set_low k2 (by omega) _).weak (by omega)⟩⟩
      · rw [Heap.get_set_ne _ _ (by omega), fr2 i (by omega) hne]; exact f0.get i hi
      · rw [Heap.get_set_ne _ _ (by omega)]; exact g2
    · rintro v h2 ⟨hb, ⟨i, rfl⟩, fr2⟩
      have n2 := fr2.next
      exact ⟨rfl, rfl, ⟨_, rfl, by simp [upd_at]⟩, fr2.ok, by omega, fun i hi _ => (f0.trans fr2).get i hi, .inr ⟨i, rfl, fr2.get' f0.ok z1, hb⟩⟩
  obtain ⟨r, s, h1, e, hd, hp', ⟨f, ht, f2⟩, k1, n1, fr, hc⟩ := key
  rcases hc with ⟨rfl, z1, k, l, w, hs, gs, A⟩ | ⟨i, rfl, z1, p1⟩
  · obtain ⟨v, h2, e2, rfl⟩ := can1_ok h.next h1 k1
    have hr : readResults CC s.tmps h2 Tryz.f22.results.toList = some [.bool true] := by
      rw [ht]; simp only [Tryz.f22]; simp (maxDischargeDepth := 30) only [AMS, AMH, ↓reduceIte, Nat.reduceLT, Nat.reduceEqDiff, Nat.reduceAdd, Nat.reduceMul, reduceCtorEq, decide_true, decide_false, Nat.reduceLeDiff, Int.reduceNe, Int.reduceEq, ne_eq, not_false_eq_true, and_self, F22_P8, f2, z1]
    exact ⟨_, h2, callF_defer (fn := Tryz.f22) (c := Tryz.f22.body.get!) (by kernel_rfl) (by kernel_rfl) rfl rfl e rfl hd hp' (by kernel_rfl) e2 hr, .inl ⟨k, l, w, hs, rfl, gs, A⟩, k1, by omega, fr⟩
  · obtain ⟨v, h2, e2, w1, k2, n2, fr2⟩ := can1_no h.next i (.bool false) h1 k1 z1
    have hr : readResults CC s.tmps h2 Tryz.f22.results.toList = some [.bool false] := by
      rw [ht]; simp only [Tryz.f22]; simp (maxDischargeDepth := 30) only [AMS, AMH, ↓reduceIte, Nat.reduceLT, Nat.reduceEqDiff, Nat.reduceAdd, Nat.reduceMul, reduceCtorEq, decide_true, decide_false, Nat.reduceLeDiff, Int.reduceNe, Int.reduceEq, ne_eq, not_false_eq_true, and_self, F22_P8, f2, w1]
    refine ⟨_, h2, callF_defer (fn := Tryz.f22) (c := Tryz.f22.body.get!) (by kernel_rfl) (by kernel_rfl) rfl rfl e rfl hd hp' (by kernel_rfl) e2 hr, .inr ⟨p1, rfl⟩, k2, by omega, fun j hj hne => ?_⟩
    rw [fr2 j (by omega) (by omega)]
    exact fr j hj hne

/-- what Parse returns -/
def parseL (t : Bs) : (Int × List Int) × Int :=
  if 40 < t.length then ((0, []), 3) else match entryB t with
  | none => ((0, []), 4)
  | some x => (x, 0)
theorem bldE_n : aBuild CC 25 [] = some (.agg ⟨[.int .i64 0, .slice none 0 0]⟩) := by kernel_rfl
set_option maxRecDepth 10000 in
set_option maxHeartbeats 1000000 in
theorem parse_p {t : Bs} {h : Heap} (hk : HOK h) (hp : 0 < h.next) (hl : t.length ≤ 900) :
    CW CC 9 [.string (bs t)] h fun r h' => ∃ v, r = .tuple ⟨[.agg ⟨[.int .i64 (parseL t).1.1, v]⟩, .int .i64 (parseL t).2]⟩ ∧ LS h' v (parseL t).1.2 ints 1 ∧ Fr h h' := by
  refine CW_in Tryz.f9 (by kernel_rfl) (by kernel_rfl) rfl rfl ?_
  simp only [Tryz.f9, bs_mk]
  have f1 : Fr h ((h.alloc (.row [.string (bs t)] 0 true)).alloc (.row [.int .i64 0, .slice none 0 0] 0 true)) := ((Fr.refl hk).alloc _).alloc _
  have r1 : rowAt ((h.alloc (.row [.string (bs t)] 0 true)).alloc (.row [.int .i64 0, .slice none 0 0] 0 true)) h.next = some [.string (bs t)] := by rw [rowAt_old _ (by simp), rowAt_new]
  have z1 : ((h.alloc (.row [.string (bs t)] 0 true)).alloc (.row [.int .i64 0, .slice none 0 0] 0 true)).get (h.next + 1) = some (.row [.int .i64 0, .slice none 0 0] 0 true) := get_at _ (by simp)
  have n1 : ((h.alloc (.row [.string (bs t)] 0 true)).alloc (.row [.int .i64 0, .slice none 0 0] 0 true)).next = h.next + 2 := by simp
  simp (maxDischargeDepth := 30) only [AMS, AMH, ↓reduceIte, Nat.reduceLT, Nat.reduceEqDiff, Nat.reduceAdd, Nat.reduceMul, reduceCtorEq, decide_true, decide_false, Nat.reduceLeDiff, Int.reduceNe, Int.reduceEq, ne_eq, not_false_eq_true, and_self, F9_P8, hk, bs_mk]
  generalize ((h.alloc (.row [.string (bs t)] 0 true)).alloc (.row [.int .i64 0, .slice none 0 0] 0 true)) = h1 at f1 r1 z1 n1 ⊢
  have k1 := f1.ok
  have nl : ∀ h', LS h' (.slice none 0 0) ([] : List Int) ints 1 := fun h' => .inl ⟨rfl, _, _, rfl⟩
  by_cases hlt : 40 < t.length
  · have d1 : decide ((((bs t).data.toList.length : Nat) : Int) > 40) = true := by show decide ((t.length : Int) > 40) = true; simp; omega
    have e : parseL t = ((0, []), 3) := by unfold parseL; rw [if_pos hlt]
    simp (maxDischargeDepth := 30) only [AMS, AMH, ↓reduceIte, Nat.reduceLT, Nat.reduceEqDiff, Nat.reduceAdd, Nat.reduceMul, reduceCtorEq, decide_true, decide_false, Nat.reduceLeDiff, Int.reduceNe, Int.reduceEq, ne_eq, not_false_eq_true, and_self, F9_P8, k1, r1, d1, z1, e, bldE_n, List.set_cons_zero]
    exact ⟨_, rfl, nl _, f1.set (by omega) (by omega) _⟩
  have d1 : decide ((((bs t).data.toList.length : Nat) : Int) > 40) = false := by show decide ((t.length : Int) > 40) = false; simp; omega
  have fS : Fr h1 (h1.alloc (.row [.int .i64 0, .slice none 0 0] 0 true)) := (Fr.refl k1).alloc _
  have gS : (h1.alloc (.row [.int .i64 0, .slice none 0 0] 0 true)).get h1.next = some (.row [.int .i64 0, .slice none 0 0] 0 true) := get_at _ rfl
  have nS : (h1.alloc (.row [.int .i64 0, .slice none 0 0] 0 true)).next = h1.next + 1 := by simp
  simp (maxDischargeDepth := 30) only [AMS, AMH, ↓reduceIte, Nat.reduceLT, Nat.reduceEqDiff, Nat.reduceAdd, Nat.reduceMul, reduceCtorEq, decide_true, decide_false, Nat.reduceLeDiff, Int.reduceNe, Int.reduceEq, ne_eq, not_false_eq_true, and_self, F9_P8, k1, r1, d1, V_clo]
  generalize (h1.alloc (.row [.int .i64 0, .slice none 0 0] 0 true)) = h2 at fS gS nS ⊢
  have k2 := fS.ok
  refine W_call (can_p k2 (by omega) hl (fS.row' k1 r1) rfl gS) ?_
  rintro r h3 ⟨hr, k3, n3, fr3⟩
  have f3 : Fr h h3 := ⟨k3, by omega, fun i hi => by rw [fr3 i (by omega) (by omega), fS.get i (by omega)]; exact f1.get i hi⟩
  have z3 : h3.get (h.next + 1) = some (.row [.int .i64 0, .slice none 0 0] 0 true) := by rw [fr3 _ (by omega) (by omega), fS.get _ (by omega)]; exact z1
  rcases hr with ⟨k, l, v, hs, rfl, gS3, A⟩ | ⟨hs, rfl⟩
  rotate_left
  · have e : parseL t = ((0, []), 4) := by unfold parseL; rw [if_neg hlt, hs]
    simp (maxDischargeDepth := 30) only [AMS, AMH, ↓reduceIte, Nat.reduceLT, Nat.reduceEqDiff, Nat.reduceAdd, Nat.reduceMul, reduceCtorEq, decide_true, decide_false, Nat.reduceLeDiff, Int.reduceNe, Int.reduceEq, ne_eq, not_false_eq_true, and_self, F9_P8, k3, z3, e, bldE_n, List.set_cons_zero]
    exact ⟨_, rfl, nl _, f3.set (by omega) (by omega) _⟩
  have rS3 : rowAt h3 h1.next = some [.int .i64 k, v] := by unfold rowAt; rw [gS3]; rfl
  have e : parseL t = ((k, l), 0) := by unfold parseL; rw [if_neg hlt, hs]
  obtain ⟨p, c, rfl⟩ := A.value
  simp (maxDischargeDepth := 30) only [AMS, AMH, ↓reduceIte, Nat.reduceLT, Nat.reduceEqDiff, Nat.reduceAdd, Nat.reduceMul, reduceCtorEq, decide_true, decide_false, Nat.reduceLeDiff, Int.reduceNe, Int.reduceEq, ne_eq, not_false_eq_true, and_self, F9_P8, k3, z3, rS3, e, List.set_cons_zero]
  exact ⟨_, rfl, SL.ls ints_len (A.set_low k3 (by omega) _), f3.set (by omega) (by omega) _⟩
end Go.Am

/- The abstract machine over this program: entries that are equal; the line of an entry, read again. -/
namespace Go.Am
open Go Go.Proofs
theorem F11_P9 : type_of% (And.intro @fp_25_0 <| And.intro @fp_25_1 <| And.intro @ld_22 @ld_23) := And.intro @fp_25_0 <| And.intro @fp_25_1 <| And.intro @ld_22 @ld_23
theorem F58_P9 : type_of% (And.intro @ix_23 <| And.intro @ld_3 <| And.intro @len_23 <| And.intro @part_3 <| And.intro @size_23 <| And.intro @size_3 <| And.intro @und_23 @zero_23) := And.intro @ix_23 <| And.intro @ld_3 <| And.intro @len_23 <| And.intro @part_3 <| And.intro @size_23 <| And.intro @size_3 <| And.intro @und_23 @zero_23

set_option maxRecDepth 10000 in
theorem same_r (v w : Value) (l m : List Int) (h : Heap) (hk : HOK h) (hv : LS h v l ints 1) (hw : LS h w m ints 1) (hl : l.length ≤ 1000) (hm : m.length ≤ 1000) : CW CC 58 [v, w] h fun r h' => r = .bool (decide (l = m)) ∧ h' = h := by
  obtain ⟨p, c, rfl, hx⟩ := hv.open
  obtain ⟨p', c', rfl, hy⟩ := hw.open
  refine CW_in Tryz.f58 (by kernel_rfl) (by kernel_rfl) rfl rfl ?_
  simp only [Tryz.f58]
  by_cases hne : (l.length : Int) = m.length
  · have hne' : l.length = m.length := by omega
    simp (maxDischargeDepth := 30) only [AMS, AMH, ↓reduceIte, Nat.reduceLT, Nat.reduceEqDiff, Nat.reduceAdd, Nat.reduceMul, reduceCtorEq, decide_true, decide_false, Nat.reduceLeDiff, Int.reduceNe, Int.reduceEq, ne_eq, not_false_eq_true, and_self, F58_P9, hne, bne_self_eq_false]
    refine W_loop l.length (fun n f h' => ∃ i, i ≤ l.length ∧ n = l.length - i ∧ f 0 = .slice p l.length c ∧ f 1 = .slice p' m.length c' ∧ f 5 = .int .i64 i ∧ l.take i = m.take i ∧ h' = h) ⟨0, by omega, by omega, by simp [upd_at, argsFn_at, hne], by simp [upd_at, argsFn_at], by simp [upd_at], by simp, rfl⟩ ?_
    rintro n f h' ⟨i, hi, rfl, g0, g1, g5, ht, rfl⟩ ih
    by_cases hil : i < l.length
    · have him : i < m.length := by omega
      obtain ⟨x, gx⟩ : ∃ x, l[i]? = some x := ⟨_, List.getElem?_eq_getElem hil⟩
      obtain ⟨y, gy⟩ : ∃ y, m[i]? = some y := ⟨_, List.getElem?_eq_getElem him⟩
      rcases hx with hx | ⟨b2, o2, sp2, row2, rfl, rr2, x2⟩
      · rw [hx] at hil; simp at hil
      rcases hy with hy | ⟨b4, o4, sp4, row4, rfl, rr4, x4⟩
      · rw [hy] at him; simp at him
      have e1 : row2[o2 + i]? = some (.int .i64 x) := by simpa [ints] using (x2 _ _ gx).2 0 (by omega)
      have e2 : row4[o4 + i]? = some (.int .i64 y) := by simpa [ints] using (x4 _ _ gy).2 0 (by omega)
      have n2 := row_lt hk rr2
      have n4 := row_lt hk rr4
      simp (maxDischargeDepth := 30) only [AMS, AMH, ↓reduceIte, Nat.reduceLT, Nat.reduceEqDiff, Nat.reduceAdd, Nat.reduceMul, reduceCtorEq, decide_true, decide_false, Nat.reduceLeDiff, Int.reduceNe, Int.reduceEq, ne_eq, not_false_eq_true, and_self, F58_P9, g0, g1, g5, lt_t hil, hil, him]
      refine W_draw [(true, 0), (true, 1), (true, 2), (true, 3), (true, 4), (true, 5), (true, 6), (true, 7), (true, 8)] (by kernel_rfl) ?_
      cases hxy : (x != y) with
      | true =>
        simp (maxDischargeDepth := 30) only [AMS, AMH, ↓reduceIte, Nat.reduceLT, Nat.reduceEqDiff, Nat.reduceAdd, Nat.reduceMul, reduceCtorEq, decide_true, decide_false, Nat.reduceLeDiff, Int.reduceNe, Int.reduceEq, ne_eq, not_false_eq_true, and_self, AMR, F58_P9, hk, g0, g1, g5, hil, him, n2, n4, rr2, rr4, Nat.mul_one, e1, e2, hxy]
        refine ⟨?_, trivial⟩
        have : l ≠ m := fun e => by
          rw [e, gy] at gx
          simp at gx hxy
          exact hxy gx.symm
        simp [this]
      | false =>
        simp (maxDischargeDepth := 30) only [AMS, AMH, ↓reduceIte, Nat.reduceLT, Nat.reduceEqDiff, Nat.reduceAdd, Nat.reduceMul, reduceCtorEq, decide_true, decide_false, Nat.reduceLeDiff, Int.reduceNe, Int.reduceEq, ne_eq, not_false_eq_true, and_self, AMR, F58_P9, hk, g0, g1, g5, hil, him, n2, n4, rr2, rr4, Nat.mul_one, e1, e2, hxy, i_next hil hl]
        refine ih (l.length - (i + 1)) _ _ (by omega) ?_
        have hxy' : x = y := by simpa using hxy
        exact ⟨i + 1, by omega, rfl, by simp [upd_at, g0], by simp [upd_at, g1], by simp [upd_at], by rw [take_snoc gx, take_snoc gy, ht, hxy'], rfl⟩
    · have : i = l.length := by omega
      subst this
      simp (maxDischargeDepth := 30) only [AMS, AMH, ↓reduceIte, Nat.reduceLT, Nat.reduceEqDiff, Nat.reduceAdd, Nat.reduceMul, reduceCtorEq, decide_true, decide_false, Nat.reduceLeDiff, Int.reduceNe, Int.reduceEq, ne_eq, not_false_eq_true, and_self, F58_P9, g0, g1, g5, lt_f]
      rw [List.take_of_length_le (Nat.le_refl _), List.take_of_length_le (by omega)] at ht
      exact ⟨by simp [ht], trivial⟩
  · have hb : ((l.length : Int) != m.length) = true := by simpa using hne
    simp (maxDischargeDepth := 30) only [AMS, AMH, ↓reduceIte, Nat.reduceLT, Nat.reduceEqDiff, Nat.reduceAdd, Nat.reduceMul, reduceCtorEq, decide_true, decide_false, Nat.reduceLeDiff, Int.reduceNe, Int.reduceEq, ne_eq, not_false_eq_true, and_self, F58_P9, hb]
    refine ⟨?_, trivial⟩
    have : l ≠ m := fun e => hne (by rw [e])
    simp [this]
theorem same10_r {v w : Value} {l m : List Int} {h : Heap} (hk : HOK h) (hv : LS h v l ints 1) (hw : LS h w m ints 1) (hl : l.length ≤ 1000) (hm : m.length ≤ 1000) : CW CC 27 [v, w] h fun r h' => r = .bool (decide (l = m)) ∧ h' = h := by
  refine CW_in Tryz.f27 (by kernel_rfl) (by kernel_rfl) rfl rfl ?_
  simp only [Tryz.f27]
  simp (maxDischargeDepth := 30) only [AMS, AMH, ↓reduceIte, Nat.reduceLT, Nat.reduceEqDiff, Nat.reduceAdd, Nat.reduceMul, reduceCtorEq, decide_true, decide_false, Nat.reduceLeDiff, Int.reduceNe, Int.reduceEq, ne_eq, not_false_eq_true, and_self, L_nil, hk]
  refine W_call (same_r v w l m h hk hv hw hl hm) ?_
  rintro _ _ ⟨rfl, rfl⟩
  simp (maxDischargeDepth := 30) only [AMS, AMH, ↓reduceIte, Nat.reduceLT, Nat.reduceEqDiff, Nat.reduceAdd, Nat.reduceMul, reduceCtorEq, decide_true, decide_false, Nat.reduceLeDiff, Int.reduceNe, Int.reduceEq, ne_eq, not_false_eq_true, and_self, L_nil, hk]
set_option maxRecDepth 10000 in
theorem sameE_r {k j : Int} {v w : Value} {l m : List Int} {h : Heap} (hk : HOK h) (hv : LS h v l ints 1) (hw : LS h w m ints 1) (hl : l.length ≤ 1000) (hm : m.length ≤ 1000) :
    CW CC 11 [.agg ⟨[.int .i64 k, v]⟩, .agg ⟨[.int .i64 j, w]⟩] h fun r h' => r = .bool (decide (k = j ∧ l = m)) ∧ Fr h h' := by
  obtain ⟨p, c, rfl, hx⟩ := hv.open
  obtain ⟨p', c', rfl, hy⟩ := hw.open
  refine CW_in Tryz.f11 (by kernel_rfl) (by kernel_rfl) rfl rfl ?_
  simp only [Tryz.f11]
  have f1 : Fr h ((h.alloc (.row [.int .i64 k, .slice p l.length c] 0 true)).alloc (.row [.int .i64 j, .slice p' m.length c'] 0 true)) := ((Fr.refl hk).alloc _).alloc _
  have r1 : rowAt ((h.alloc (.row [.int .i64 k, .slice p l.length c] 0 true)).alloc (.row [.int .i64 j, .slice p' m.length c'] 0 true)) h.next = some [.int .i64 k, .slice p l.length c] := by rw [rowAt_old _ (by simp), rowAt_new]
  have r2 : rowAt ((h.alloc (.row [.int .i64 k, .slice p l.length c] 0 true)).alloc (.row [.int .i64 j, .slice p' m.length c'] 0 true)) (h.next + 1) = some [.int .i64 j, .slice p' m.length c'] := rowAt_at _ _ _ (by simp)
  simp (maxDischargeDepth := 30) only [AMS, AMH, ↓reduceIte, Nat.reduceLT, Nat.reduceEqDiff, Nat.reduceAdd, Nat.reduceMul, reduceCtorEq, decide_true, decide_false, Nat.reduceLeDiff, Int.reduceNe, Int.reduceEq, ne_eq, not_false_eq_true, and_self, F11_P9, hk]
  by_cases hkj : k = j
  · have e : (k == j) = true := by simpa using hkj
    simp (maxDischargeDepth := 30) only [AMS, AMH, ↓reduceIte, Nat.reduceLT, Nat.reduceEqDiff, Nat.reduceAdd, Nat.reduceMul, reduceCtorEq, decide_true, decide_false, Nat.reduceLeDiff, Int.reduceNe, Int.reduceEq, ne_eq, not_false_eq_true, and_self, F11_P9, hk, e]
    generalize ((h.alloc (.row [.int .i64 k, .slice p l.length c] 0 true)).alloc (.row [.int .i64 j, .slice p' m.length c'] 0 true)) = h1 at f1 r1 r2 ⊢
    refine W_call (same10_r f1.ok (hv.fr hk f1) (hw.fr hk f1) hl hm) ?_
    rintro _ _ ⟨rfl, rfl⟩
    simp (maxDischargeDepth := 30) only [AMS, AMH, ↓reduceIte, Nat.reduceLT, Nat.reduceEqDiff, Nat.reduceAdd, Nat.reduceMul, reduceCtorEq, decide_true, decide_false, Nat.reduceLeDiff, Int.reduceNe, Int.reduceEq, ne_eq, not_false_eq_true, and_self, F11_P9, f1.ok]
    exact ⟨by simp [hkj], f1⟩
  · have e : (k == j) = false := by simpa using hkj
    simp (maxDischargeDepth := 30) only [AMS, AMH, ↓reduceIte, Nat.reduceLT, Nat.reduceEqDiff, Nat.reduceAdd, Nat.reduceMul, reduceCtorEq, decide_true, decide_false, Nat.reduceLeDiff, Int.reduceNe, Int.reduceEq, ne_eq, not_false_eq_true, and_self, F11_P9, hk, e]
    exact ⟨by simp [hkj], f1⟩

/- THE LINE OF AN ENTRY, READ AGAIN -/
theorem words_pos : ∀ j, j < 13 → pos (wordL.getD j []) wordL 0 = (j : Int) ∧ (32 : UInt8) ∉ wordL.getD j [] := by decide +kernel
theorem word_pos {k : Int} (h : isKind k = true) : pos (wordK k) wordL 0 = k - 1 ∧ (32 : UInt8) ∉ wordK k := by
  have hk := of_decide_eq_true h
  have := words_pos (k - 1).toNat (by omega)
  unfold wordK
  refine ⟨?_, this.2⟩
  rw [this.1]; omega
theorem dec_sp {n : Int} (h : okN n) : (32 : UInt8) ∉ dec n := dig_no (dec_num h).2.2.2 (by decide)
theorem line_cut {k : Int} {l : List Int} (h : formed k l = true) : cutAt 32 (lineB k l) = wordK k :: l.map dec := by
  obtain ⟨h1, h2, _⟩ := formed_ok h
  unfold lineB
  refine cut_glue fun x hx => ?_
  rcases List.mem_cons.1 hx with rfl | hx
  · exact (word_pos h1).2
  · obtain ⟨n, hn, rfl⟩ := List.mem_map.1 hx
    exact dec_sp (h2 n hn)
theorem vals_dec : ∀ {l : List Int}, (∀ n ∈ l, okN n) → vals (l.map dec) = l ∧ (l.map dec).all numB = true
  | [], _ => ⟨rfl, rfl⟩
  | n :: l, h => by
    obtain ⟨i1, i2⟩ := vals_dec (l := l) fun x hx => h x (List.mem_cons_of_mem _ hx)
    obtain ⟨a1, a2, _⟩ := dec_num (h n List.mem_cons_self)
    unfold vals at i1 ⊢
    rw [List.map_cons, List.map_cons, i1, a2, List.all_cons, a1, i2]
    exact ⟨rfl, rfl⟩
theorem line_entry {k : Int} {l : List Int} (h : formed k l = true) : entryB (lineB k l) = some (k, l) := by
  obtain ⟨h1, h2, _⟩ := formed_ok h
  obtain ⟨v1, v2⟩ := vals_dec h2
  have hp := (word_pos h1).1
  have hk := of_decide_eq_true h1
  have e : partedB (lineB k l) = some (k - 1, l) := by
    unfold partedB
    rw [line_cut h]
    show (if pos (wordK k) wordL 0 = -1 then none else if (l.map dec).all numB = true then some (pos (wordK k) wordL 0, vals (l.map dec)) else none) = _
    rw [hp, v1, v2, if_neg (by omega), if_pos rfl]
  unfold entryB
  rw [e]
  show (if k - 1 ≤ 12 ∧ formed (1 + (k - 1)) l = true then some (1 + (k - 1), l) else none) = _
  rw [show 1 + (k - 1) = k by omega, if_pos ⟨by omega, h⟩]
theorem line_parse {k : Int} {l : List Int} (h : formed k l = true) : parseL (lineB k l) = ((k, l), 0) := by
  unfold parseL
  rw [if_neg (by have := line_len h; omega), line_entry h]
end Go.Am
