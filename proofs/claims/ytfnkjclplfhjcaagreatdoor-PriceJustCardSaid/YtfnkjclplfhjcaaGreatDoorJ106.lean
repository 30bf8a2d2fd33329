/- Parts 106 of the abstract machine over this program, joined: what each part says stands at its head. -/
import Derived.Test.YtfnkjclplfhjcaaGreatDoorJ103
set_option linter.unusedSimpArgs false
set_option linter.unusedVariables false
/- The abstract machine, part 106: contracts: what an owner would pay alone. -/
namespace Go.Am
open Go Go.Proofs

/- PLAIN -/
def isOwn (k : Int) (p : Board × Int) : Bool := p.1.ow == k
def ownB (k : Int) (bs : List Board) (hs : List Int) : List Board := ((bs.zip hs).filter (isOwn k)).map (·.1)
def ownH (k : Int) (bs : List Board) (hs : List Int) : List Int := ((bs.zip hs).filter (isOwn k)).map (·.2)
theorem own_len (k : Int) (bs : List Board) (hs : List Int) : (ownH k bs hs).length = (ownB k bs hs).length := by simp [ownB, ownH]
theorem own_le (k : Int) (bs : List Board) (hs : List Int) : (ownB k bs hs).length ≤ bs.length := by
  unfold ownB
  rw [List.length_map]
  refine Nat.le_trans (List.length_filter_le _ _) ?_
  rw [List.length_zip]; omega
theorem own_zip (k : Int) (bs : List Board) (hs : List Int) : (ownB k bs hs).zip (ownH k bs hs) = (bs.zip hs).filter (isOwn k) := by
  unfold ownB ownH
  generalize (bs.zip hs).filter (isOwn k) = L
  induction L with
  | nil => rfl
  | cons p L ih => simp [List.zip_cons_cons, ih]
theorem own_cons (k : Int) (b : Board) (x : Int) (bs : List Board) (hs : List Int) : ownB k (b :: bs) (x :: hs) = (if b.ow == k then [b] else []) ++ ownB k bs hs ∧ ownH k (b :: bs) (x :: hs) = (if b.ow == k then [x] else []) ++ ownH k bs hs := by
  unfold ownB ownH
  rw [List.zip_cons_cons, List.filter_cons]
  cases e : (b.ow == k) with
  | true => simp [isOwn, e]
  | false => simp [isOwn, e]
theorem own_snoc {k : Int} {bs : List Board} {l : List Int} {i : Nat} {b : Board} {x : Int} (hb : bs[i]? = some b) (hx : l[i]? = some x) :
    ownB k (bs.take (i + 1)) (l.take (i + 1)) = ownB k (bs.take i) (l.take i) ++ (if b.ow == k then [b] else []) ∧ ownH k (bs.take (i + 1)) (l.take (i + 1)) = ownH k (bs.take i) (l.take i) ++ (if b.ow == k then [x] else []) := by
  unfold ownB ownH
  have e : ∀ j, (bs.take j).zip (l.take j) = (bs.zip l).take j := fun j => by simp [List.zip, List.take_zipWith]
  rw [e, e, take_snoc (List.getElem?_zip_eq_some.2 ⟨hb, hx⟩ : (bs.zip l)[i]? = some (b, x)), List.filter_append, List.map_append, List.map_append]
  cases q : (b.ow == k) with
  | true => simp [isOwn, q]
  | false => simp [isOwn, q]
theorem sumI_append (l m : List Int) : sumI (l ++ m) = sumI l + sumI m := by
  induction l with
  | nil => simp [sumI]
  | cons x l ih => rw [List.cons_append, sumI_cons, sumI_cons, ih]; omega
theorem sum_own (k : Int) (f : Board × Int → Int) : ∀ L : List (Board × Int), sumI ((L.filter (isOwn k)).map f) = sumI (L.map fun p => if isOwn k p then f p else 0)
  | [] => rfl
  | p :: L => by
    rw [List.filter_cons, List.map_cons, sumI_cons, ← sum_own k f L]
    cases e : isOwn k p with
    | true => simp [sumI_cons]
    | false => simp
theorem qtys_own {t : Tar} {k : Int} (hk : 0 ≤ k) (bs : List Board) (hs : List Int) : sumI (qtys t (ownB k bs hs) (ownH k bs hs)) = sumI (qtysO t k bs hs) := by
  unfold qtys qtysO
  rw [own_zip, sum_own]
  congr 1
  refine List.map_congr_left fun p _ => ?_
  have : decide (k < 0) = false := decide_eq_false (by omega)
  simp [qOwn, isOwn, this]
theorem parts_own {t : Tar} {k : Int} (bs : List Board) (hs : List Int) : sumI (parts t (ownB k bs hs) (ownH k bs hs)) = ownSum k bs (parts t bs hs) := by
  have e : ∀ (bs : List Board) (hs : List Int), parts t bs hs = (bs.zip hs).map fun p => price1 t (qty t.kind p.1 p.2) := fun bs hs => by
    unfold parts qtys; rw [List.map_map]; rfl
  rw [e, own_zip, sum_own, e]
  unfold ownSum
  congr 1
  clear e
  induction bs generalizing hs with
  | nil => rfl
  | cons b bs ih =>
    cases hs with
    | nil => rfl
    | cons x hs => simp only [List.zip_cons_cons, List.map_cons, ih]; rfl
theorem qtys_own_b {t : Tar} {k B : Int} {bs : List Board} {hs : List Int} (hq : ∀ x ∈ qtys t bs hs, 0 ≤ x ∧ x ≤ B) : ∀ x ∈ qtys t (ownB k bs hs) (ownH k bs hs), 0 ≤ x ∧ x ≤ B := by
  intro x hx
  unfold qtys at hx
  rw [own_zip, List.mem_map] at hx
  obtain ⟨p, hp, rfl⟩ := hx
  exact hq _ (List.mem_map.2 ⟨p, (List.mem_filter.1 hp).1, rfl⟩)
/-- what an owner would pay alone -/
def alone (t : Tar) (bs : List Board) (hs : List Int) (k : Int) : Int := paid t (ownB k bs hs) (ownH k bs hs)
theorem alone_b {t : Tar} {k : Int} {bs : List Board} {hs : List Int} (ht : t.ok = true) (hb : bs.length ≤ 4) (hq : ∀ x ∈ qtys t bs hs, 0 ≤ x ∧ x ≤ 60) : 0 ≤ alone t bs hs k ∧ alone t bs hs k ≤ 1000000 := by
  have hle := own_le k bs hs
  have hq' := qtys_own_b (k := k) hq
  by_cases h0 : (ownB k bs hs).length = 0
  · have e1 : ownB k bs hs = [] := List.eq_nil_of_length_eq_zero h0
    have e2 : ownH k bs hs = [] := List.eq_nil_of_length_eq_zero (by rw [own_len]; exact h0)
    unfold alone paid
    rw [e1, e2]
    split
    · show 0 ≤ (0 : Int) ∧ (0 : Int) ≤ 1000000; omega
    · have tk := Tar.ok_at ht
      have e3 : sumI (qtys t [] []) = 0 := rfl
      rw [e3]
      have h2 := price1_b ht (Int.le_refl 0) (by omega : (0 : Int) ≤ 1000000)
      have := rnd_b (rule := t.rule - 1) (a := 0 * t.coins) (b := t.units) (by omega) (by omega)
      unfold price1
      omega
  · exact paid_b ht (own_len k bs hs) ⟨by omega, by omega⟩ hq'

theorem bs_23 (b : Board) : aBuildSlice CC 23 1 [(0, .agg ⟨b.cells⟩)] = some (.new (.row b.cells 5 true) (sliceTo 5 1 1)) := by kernel_rfl
theorem append_N {C : Ctx} {t u : TypeId} {ts : List TypeId} {w : Nat} (ht : AppT C t u w) {N : Nat} {h1 : Heap} {out x : Value} {l new : List Value} {n m : Nat} (hk : HOK h1) (hN : N ≤ h1.next) (hp : 0 < h1.next) (q : SL N h1 out l w n)
    (hx : lenOfV x = some (m + 1)) (hc : sliceCells h1 w (m + 1) x = some new) (h1' : allOne new = true) (hl : new.length = (m + 1) * w) (hn : n + (m + 1) ≤ 4294967296) :
    ∃ h', aAppend C (t :: u :: ts) out x h1 = some (sliceTo w (n + (m + 1)) (n + (m + 1)) h1.next, h') ∧ SL N h' (sliceTo w (n + (m + 1)) (n + (m + 1)) h1.next) (l ++ new) w (n + (m + 1)) ∧ HOK h' ∧ h'.next = h1.next + 1 ∧ ∀ i, i < h1.next → blkOf out ≠ some i → h'.get i = h1.get i := by
  have f : Fr ⟨0, .nil⟩ h1 := ⟨hk, Nat.zero_le _, fun i hi => absurd hi (Nat.not_lt_zero _)⟩
  obtain ⟨h', e, q', f', n', g'⟩ := append_at (ts := ts) ht f hp (q.weak (Nat.zero_le _)) hx hc h1' hl hn
  refine ⟨h', e, ?_, f'.ok, n', g'⟩
  rcases q' with ⟨e', _⟩ | ⟨b, e', a1, a2, a3⟩
  · simp [sliceTo] at e'
  · refine .inr ⟨b, e', a1, ?_, a3⟩
    simp [sliceTo] at e'
    omega

set_option maxRecDepth 10000 in
set_option maxHeartbeats 4000000 in
theorem alone_90 {h : Heap} (hk : HOK h) (hp : 0 < h.next) {v : Value} {s : Sheet} {hs : List Int} {m : Nat} {t : Tar} (hv : IsBill h v s hs m) (ok : s.ok = true) (ht : t.ok = true) (hl : hs.length = s.boards.length) (hq : ∀ x ∈ qtys t s.boards hs, 0 ≤ x ∧ x ≤ 60) (k : Int) :
    CW CC 90 [v, .agg ⟨t.cells⟩, .int .i64 k] h fun r h' => r = .int .i64 (alone t s.boards hs k) ∧ Fr h h' := by
  have hlen := Sheet.ok_len ok
  have tk := Tar.ok_at ht
  obtain ⟨a, b, c, d, rfl, hsh, hh⟩ := hv.ex
  have hsh' := hsh
  obtain ⟨p1, c1, rfl, _⟩ := hsh.offs.open
  obtain ⟨p2, c2, rfl, x2⟩ := hsh.boards.open
  obtain ⟨p3, c3, rfl, _⟩ := hsh.tars.open
  obtain ⟨pd, cd, rfl⟩ := hh.len
  have kt : take? t.cells 0 5 = some t.cells := rfl
  have kc : t.cells.all selfC = true := rfl
  refine CW_in Tryz.f90 (by kernel_rfl) (by kernel_rfl) rfl rfl ?_
  simp only [Tryz.f90]
  have f1 : Fr h ((((((h.alloc (.row [.slice p1 s.offs.length c1, .slice p2 s.boards.length c2, .slice p3 s.tars.length c3, .slice pd hs.length cd, .map (some m)] 0 true)).alloc (.row t.cells 0 true)).alloc (.row [.slice none 0 0, .slice none 0 0, .slice none 0 0] 0 true)).set (h.next + 1 + 1) (.row [.slice p1 s.offs.length c1, .slice p2 s.boards.length c2, .slice p3 s.tars.length c3] 0 true))).set (h.next + 1 + 1) (.row [.slice p1 s.offs.length c1, .slice none 0 0, .slice p3 s.tars.length c3] 0 true)) := (((((Fr.refl hk).alloc _).alloc _).alloc _).set (by omega) (by simp) _).set (by omega) (by simp) _
  have r1 : rowAt ((((((h.alloc (.row [.slice p1 s.offs.length c1, .slice p2 s.boards.length c2, .slice p3 s.tars.length c3, .slice pd hs.length cd, .map (some m)] 0 true)).alloc (.row t.cells 0 true)).alloc (.row [.slice none 0 0, .slice none 0 0, .slice none 0 0] 0 true)).set (h.next + 1 + 1) (.row [.slice p1 s.offs.length c1, .slice p2 s.boards.length c2, .slice p3 s.tars.length c3] 0 true))).set (h.next + 1 + 1) (.row [.slice p1 s.offs.length c1, .slice none 0 0, .slice p3 s.tars.length c3] 0 true)) h.next = some [.slice p1 s.offs.length c1, .slice p2 s.boards.length c2, .slice p3 s.tars.length c3, .slice pd hs.length cd, .map (some m)] := by rw [rowAt_set_lt _ (by omega), rowAt_set_lt _ (by omega), rowAt_old _ (by simp only [Heap.next_alloc]; omega), rowAt_old _ (by simp only [Heap.next_alloc]; omega), rowAt_new]
  have t1 : rowAt ((((((h.alloc (.row [.slice p1 s.offs.length c1, .slice p2 s.boards.length c2, .slice p3 s.tars.length c3, .slice pd hs.length cd, .map (some m)] 0 true)).alloc (.row t.cells 0 true)).alloc (.row [.slice none 0 0, .slice none 0 0, .slice none 0 0] 0 true)).set (h.next + 1 + 1) (.row [.slice p1 s.offs.length c1, .slice p2 s.boards.length c2, .slice p3 s.tars.length c3] 0 true))).set (h.next + 1 + 1) (.row [.slice p1 s.offs.length c1, .slice none 0 0, .slice p3 s.tars.length c3] 0 true)) (h.next + 1) = some t.cells := by rw [rowAt_set_lt _ (by omega), rowAt_set_lt _ (by omega), rowAt_old _ (by simp only [Heap.next_alloc]; omega)]; exact rowAt_at _ _ _ (by simp only [Heap.next_alloc])
  have g1 : ((((((h.alloc (.row [.slice p1 s.offs.length c1, .slice p2 s.boards.length c2, .slice p3 s.tars.length c3, .slice pd hs.length cd, .map (some m)] 0 true)).alloc (.row t.cells 0 true)).alloc (.row [.slice none 0 0, .slice none 0 0, .slice none 0 0] 0 true)).set (h.next + 1 + 1) (.row [.slice p1 s.offs.length c1, .slice p2 s.boards.length c2, .slice p3 s.tars.length c3] 0 true))).set (h.next + 1 + 1) (.row [.slice p1 s.offs.length c1, .slice none 0 0, .slice p3 s.tars.length c3] 0 true)).get (h.next + 1 + 1) = some (.row [.slice p1 s.offs.length c1, .slice none 0 0, .slice p3 s.tars.length c3] 0 true) := Heap.get_set_self _ _ _
  have n1 : ((((((h.alloc (.row [.slice p1 s.offs.length c1, .slice p2 s.boards.length c2, .slice p3 s.tars.length c3, .slice pd hs.length cd, .map (some m)] 0 true)).alloc (.row t.cells 0 true)).alloc (.row [.slice none 0 0, .slice none 0 0, .slice none 0 0] 0 true)).set (h.next + 1 + 1) (.row [.slice p1 s.offs.length c1, .slice p2 s.boards.length c2, .slice p3 s.tars.length c3] 0 true))).set (h.next + 1 + 1) (.row [.slice p1 s.offs.length c1, .slice none 0 0, .slice p3 s.tars.length c3] 0 true)).next = h.next + 3 := by simp
  simp (maxDischargeDepth := 30) only [AMS, AMH, ↓reduceIte, Nat.reduceLT, Nat.reduceEqDiff, Nat.reduceAdd, Nat.reduceMul, reduceCtorEq, decide_true, decide_false, Nat.reduceLeDiff, Int.reduceNe, Int.reduceEq, ne_eq, not_false_eq_true, and_self, bs_22, fp_26_1, fp_72_3, fp_94_0, fp_94_1, ix_22, ix_23, ld_22, ld_23, ld_26, ld_3, ld_41, ld_72, len_23, part_3, part_72, size_22, size_23, size_26, size_3, size_72, und_22, und_23, zero_22, zero_23, zero_26, zero_72, hk, List.set_cons_succ, List.set_cons_zero]
  generalize ((((((h.alloc (.row [.slice p1 s.offs.length c1, .slice p2 s.boards.length c2, .slice p3 s.tars.length c3, .slice pd hs.length cd, .map (some m)] 0 true)).alloc (.row t.cells 0 true)).alloc (.row [.slice none 0 0, .slice none 0 0, .slice none 0 0] 0 true)).set (h.next + 1 + 1) (.row [.slice p1 s.offs.length c1, .slice p2 s.boards.length c2, .slice p3 s.tars.length c3] 0 true))).set (h.next + 1 + 1) (.row [.slice p1 s.offs.length c1, .slice none 0 0, .slice p3 s.tars.length c3] 0 true)) = h1 at f1 r1 t1 g1 n1 ⊢
  refine W_loop s.boards.length (fun m' f h' => ∃ i BV, i ≤ s.boards.length ∧ m' = s.boards.length - i ∧ f 2 = .int .i64 k ∧ f 3 = .pointer (some ⟨h.next, 0, none⟩) ∧ f 4 = .pointer (some ⟨h.next + 1, 0, none⟩) ∧ f 7 = .pointer (some ⟨h.next + 1 + 1, 0, none⟩) ∧ f 16 = .slice p2 s.boards.length c2 ∧ f 17 = .int .i64 s.boards.length ∧ f 18 = .int .i64 i ∧
      h'.get (h.next + 1 + 1) = some (.row [.slice p1 s.offs.length c1, BV, .slice p3 s.tars.length c3] 0 true) ∧
      SL h1.next h' BV ((ownB k (s.boards.take i) (hs.take i)).flatMap Board.cells) 5 (ownB k (s.boards.take i) (hs.take i)).length ∧ SL h1.next h' (f 8) ((ownH k (s.boards.take i) (hs.take i)).flatMap ints) 1 (ownB k (s.boards.take i) (hs.take i)).length ∧ (∀ x, blkOf BV = some x → blkOf (f 8) ≠ some x) ∧
      Fr h h' ∧ h1.next ≤ h'.next ∧ rowAt h' h.next = some [.slice p1 s.offs.length c1, .slice p2 s.boards.length c2, .slice p3 s.tars.length c3, .slice pd hs.length cd, .map (some m)] ∧ rowAt h' (h.next + 1) = some t.cells)
    ⟨0, .slice none 0 0, by omega, by omega, by simp [upd_at, argsFn_at], by simp [upd_at], by simp [upd_at], by simp [upd_at], by simp [upd_at], by simp [upd_at], by simp [upd_at], g1, SL.nil h1.next h1 5, by simpa [upd_at, ownH, ownB] using SL.nil h1.next h1 1, by simp [blkOf], f1, Nat.le_refl _, r1, t1⟩ ?_
  clear f1 r1 t1 g1
  rintro m' f h' ⟨i, BV, hi, rfl, g2, g3, g4, g7, g16, g17, g18, gX, qB, qH, hne, fr, nn, r', t'⟩ ih
  have k' := fr.ok
  by_cases hil : i < s.boards.length
  · obtain ⟨B, gB⟩ : ∃ x, s.boards[i]? = some x := ⟨_, List.getElem?_eq_getElem hil⟩
    have hil' : i < hs.length := by omega
    obtain ⟨y, gy⟩ : ∃ x, hs[i]? = some x := ⟨_, List.getElem?_eq_getElem hil'⟩
    rcases x2 with hx | ⟨b2, o2, sp2, row2, rfl, rr2, x2⟩
    · rw [hx] at hil; simp at hil
    obtain ⟨b4, o4, sp4, row4, rfl, rr4, e4⟩ := hh.cell gy
    have eB : take? row2 (o2 + i * 5) 5 = some B.cells := (x2 _ _ gB).1
    have rr2' := fr.row' hk rr2
    have rr4' := fr.row' hk rr4
    have bl : B.cells.length = 5 := rfl
    have ba : allOne B.cells = true := rfl
    have kb4 : B.cells[4]? = some (.int .i64 B.ow) := rfl
    have kt5 : take? B.cells 0 5 = some B.cells := rfl
    have kcb : B.cells.all selfC = true := rfl
    have st := own_snoc (k := k) gB gy
    simp (maxDischargeDepth := 30) only [AMS, AMH, ↓reduceIte, Nat.reduceLT, Nat.reduceEqDiff, Nat.reduceAdd, Nat.reduceMul, reduceCtorEq, decide_true, decide_false, Nat.reduceLeDiff, Int.reduceNe, Int.reduceEq, ne_eq, not_false_eq_true, and_self, bs_22, fp_26_1, fp_72_3, fp_94_0, fp_94_1, ix_22, ix_23, ld_22, ld_23, ld_26, ld_3, ld_41, ld_72, len_23, part_3, part_72, size_22, size_23, size_26, size_3, size_72, und_22, und_23, zero_22, zero_23, zero_26, zero_72, k', g2, g3, g4, g7, g16, g17, g18, lt_t hil, hil, rr2', eB, bl, ba]
    have fb : Fr h' ((h'.alloc (.row [.int .i64 0, .int .i64 0, .int .i64 0, .int .i64 0, .int .i64 0] 0 true)).set h'.next (.row B.cells 0 true)) := ((Fr.refl k').alloc _).set (Nat.le_refl _) (by simp) _
    have rb : rowAt ((h'.alloc (.row [.int .i64 0, .int .i64 0, .int .i64 0, .int .i64 0, .int .i64 0] 0 true)).set h'.next (.row B.cells 0 true)) h'.next = some B.cells := rowAt_set_self _ _ _ _ _
    generalize ((h'.alloc (.row [.int .i64 0, .int .i64 0, .int .i64 0, .int .i64 0, .int .i64 0] 0 true)).set h'.next (.row B.cells 0 true)) = H at fb rb ⊢
    have f2 := fr.trans fb
    have gX2 := fb.get' k' gX
    have rX2 : rowAt H (h.next + 1 + 1) = some [.slice p1 s.offs.length c1, BV, .slice p3 s.tars.length c3] := by unfold rowAt; rw [gX2]; rfl
    have qB2 := qB.fr k' fb
    have qH2 := qH.fr k' fb
    have r2 := fb.row' k' r'
    have t2 := fb.row' k' t'
    have nH := fb.next
    cases hown : (B.ow == k) with
    | false =>
      rw [hown] at st
      simp only [Bool.false_eq_true, if_false, List.append_nil] at st
      simp (maxDischargeDepth := 30) only [AMS, AMH, ↓reduceIte, Nat.reduceLT, Nat.reduceEqDiff, Nat.reduceAdd, Nat.reduceMul, reduceCtorEq, decide_true, decide_false, Nat.reduceLeDiff, Int.reduceNe, Int.reduceEq, ne_eq, not_false_eq_true, and_self, bs_22, fp_26_1, fp_72_3, fp_94_0, fp_94_1, ix_22, ix_23, ld_22, ld_23, ld_26, ld_3, ld_41, ld_72, len_23, part_3, part_72, size_22, size_23, size_26, size_3, size_72, und_22, und_23, zero_22, zero_23, zero_26, zero_72, f2.ok, g2, g3, g4, g7, g16, g17, g18, rb, kb4, hown, i_next hil (by omega : s.boards.length ≤ 1000)]
      refine ih (s.boards.length - (i + 1)) _ _ (by omega) ?_
      exact ⟨i + 1, BV, by omega, rfl, by simp [upd_at, g2], by simp [upd_at, g3], by simp [upd_at, g4], by simp [upd_at, g7], by simp [upd_at, g16], by simp [upd_at, g17], by simp [upd_at], gX2, by rw [st.1]; exact qB2, by rw [st.1, st.2]; simpa [upd_at] using qH2, by simpa [upd_at] using hne, f2, by omega, r2, t2⟩
    | true =>
      rw [hown] at st
      simp only [if_true] at st
      have k2 := f2.ok
      generalize hnn : (ownB k (s.boards.take i) (hs.take i)).length = n at qB2 qH2
      have n4 : n ≤ 1000 := by have := own_le k (s.boards.take i) (hs.take i); rw [List.length_take] at this; omega
      have fa : Fr H (H.alloc (.row B.cells 5 true)) := (Fr.refl k2).alloc _
      have fbb : Fr H ((H.alloc (.row B.cells 5 true)).alloc (.row [.int .i64 y] 1 true)) := fa.alloc _
      have nC : ((H.alloc (.row B.cells 5 true)).alloc (.row [.int .i64 y] 1 true)).next = H.next + 2 := by simp
      have qB3 := qB2.fr k2 fbb
      have qH3 := qH2.fr k2 fbb
      have blB := fun b hb => qB2.blk_lt k2 (b := b) hb
      have blH := fun b hb => qH2.blk_lt k2 (b := b) hb
      have rlo : rowAt ((H.alloc (.row B.cells 5 true)).alloc (.row [.int .i64 y] 1 true)) H.next = some B.cells := by rw [rowAt_old _ (by simp), rowAt_new]
      have rhi : ((H.alloc (.row B.cells 5 true)).alloc (.row [.int .i64 y] 1 true)).get (H.next + 1) = some (.row [.int .i64 y] 1 true) := get_at _ (by simp)
      have ra3 := fa.row' k2 r2
      have raB := fa.row' k2 rb
      have raX := fa.row' k2 rX2
      have ra4 := (fb.trans fa).row' k' rr4'
      have rc3 := fbb.row' k2 r2
      have rcB := fbb.row' k2 rb
      have rcX := fbb.row' k2 rX2
      have rc4 := (fb.trans fbb).row' k' rr4'
      have gcX := fbb.get' k2 gX2
      have kC := fbb.ok
      obtain ⟨h6, e6, q6, k6, n6, g6⟩ := append_N (ts := []) (N := h1.next) app_23 kC (by omega) (by omega) qB3 (x := .slice (some ⟨H.next, 0, some 5⟩) 1 1) (new := B.cells) (m := 0) rfl (by
        show obind (rowAt _ H.next) (fun cells => take? cells 0 (1 * 5)) = _
        rw [rlo]; rfl) rfl rfl (by omega)
      have keep6 : ∀ j, j < h1.next → h6.get j = ((H.alloc (.row B.cells 5 true)).alloc (.row [.int .i64 y] 1 true)).get j := fun j hj => g6 j (by omega) (fun hc => by have := (blB _ hc).1; omega)
      have at6 : ∀ j L, j < h1.next → rowAt ((H.alloc (.row B.cells 5 true)).alloc (.row [.int .i64 y] 1 true)) j = some L → rowAt h6 j = some L := fun j L hj hr => by unfold rowAt; rw [keep6 j hj]; exact hr
      have rb6 : rowAt h6 h'.next = some B.cells := by
        unfold rowAt; rw [g6 _ (by omega) (fun hc => by have := (qB.blk_lt k' hc).2; omega)]; exact rcB
      have rX6 := at6 _ _ (by omega) rcX
      have r36 := at6 _ _ (by omega) rc3
      have l4 := row_lt hk rr4
      have r46 := at6 _ _ (by omega) rc4
      have gX6 : h6.get (h.next + 1 + 1) = some (.row [.slice p1 s.offs.length c1, BV, .slice p3 s.tars.length c3] 0 true) := by rw [keep6 _ (by omega)]; exact gcX
      have gb6 : h6.get (H.next + 1) = some (.row [.int .i64 y] 1 true) := by rw [g6 _ (by omega) (fun hc => by have := (blB _ hc).2; omega)]; exact rhi
      have rhi6 : rowAt h6 (H.next + 1) = some [.int .i64 y] := by unfold rowAt; rw [gb6]; rfl
      have qH6 : SL h1.next h6 (f 8) ((ownH k (s.boards.take i) (hs.take i)).flatMap ints) 1 n := qH3.keep fun b hb => g6 b (by have := (blH b hb).2; omega) (fun hc => hne b hc hb)
      obtain ⟨h7, e7, q7, k7, n7, g7'⟩ := append_N (ts := []) (N := h1.next) app_22 k6 (by omega) (by omega) qH6 (x := .slice (some ⟨H.next + 1, 0, some 1⟩) 1 1) (new := [.int .i64 y]) (m := 0) rfl (by
        show obind (rowAt _ (H.next + 1)) (fun cells => take? cells 0 (1 * 1)) = _
        rw [rhi6]; rfl) rfl rfl (by omega)
      have keep7 : ∀ j, j < h1.next → h7.get j = h6.get j := fun j hj => g7' j (by omega) (fun hc => by have := (blH _ hc).1; omega)
      have at7 : ∀ j L, j < h1.next → rowAt h6 j = some L → rowAt h7 j = some L := fun j L hj hr => by unfold rowAt; rw [keep7 j hj]; exact hr
      have rb7 : rowAt h7 h'.next = some B.cells := by
        unfold rowAt; rw [g7' _ (by omega) (fun hc => by have := (qH.blk_lt k' hc).2; omega)]; exact rb6
      have rX7 := at7 _ _ (by omega) rX6
      have r37 := at7 _ _ (by omega) r36
      have r47 := at7 _ _ (by omega) r46
      have gX7 : h7.get (h.next + 1 + 1) = some (.row [.slice p1 s.offs.length c1, BV, .slice p3 s.tars.length c3] 0 true) := by rw [keep7 _ (by omega)]; exact gX6
      have q6' : SL h1.next h7 (sliceTo 5 (n + (0 + 1)) (n + (0 + 1)) ((H.alloc (.row B.cells 5 true)).alloc (.row [.int .i64 y] 1 true)).next) ((ownB k (s.boards.take i) (hs.take i)).flatMap Board.cells ++ B.cells) 5 (n + (0 + 1)) := q6.keep fun b hb => g7' b (by simp [sliceTo, blkOf] at hb; omega) (fun hc => by simp [sliceTo, blkOf] at hb; have := (blH _ hc).2; omega)
      have f7 : Fr h h7 := ⟨k7, by have := fr.next; omega, fun j hj => by
        rw [keep7 j (by omega), keep6 j (by omega), fbb.get j (by have := fr.next; omega)]; exact f2.get j hj⟩
      have f8 : Fr h (h7.set (h.next + 1 + 1) (.row [.slice p1 s.offs.length c1, .slice (some ⟨H.next + 1 + 1, 0, some 5⟩) (n + 1) (n + 1), .slice p3 s.tars.length c3] 0 true)) := f7.set (by omega) (by omega) _
      have nC' : ((H.alloc (.row B.cells 5 true)).alloc (.row [.int .i64 y] 1 true)).next = H.next + 1 + 1 := by simp
      rw [nC'] at q6' e6
      simp only [sliceTo, Nat.zero_add] at e6 e7 q7 q6'
      simp (maxDischargeDepth := 30) only [AMS, AMH, ↓reduceIte, Nat.reduceLT, Nat.reduceEqDiff, Nat.reduceAdd, Nat.reduceMul, reduceCtorEq, decide_true, decide_false, Nat.reduceLeDiff, Int.reduceNe, Int.reduceEq, ne_eq, not_false_eq_true, and_self, bs_22, fp_26_1, fp_72_3, fp_94_0, fp_94_1, ix_22, ix_23, ld_22, ld_23, ld_26, ld_3, ld_41, ld_72, len_23, part_3, part_72, size_22, size_23, size_26, size_3, size_72, und_22, und_23, zero_22, zero_23, zero_26, zero_72, f2.ok, g2, rb, kb4, hown]
      refine W_draw [(true, 0), (true, 1), (true, 2), (true, 3), (true, 5), (true, 6), (true, 7), (true, 8), (true, 9), (true, 10), (true, 11), (true, 4), (false, 7), (false, 10), (false, 11), (true, 13), (true, 12), (true, 14), (true, 15)] (by kernel_rfl) ?_
      simp (maxDischargeDepth := 30) only [AMS, AMH, ↓reduceIte, Nat.reduceLT, Nat.reduceEqDiff, Nat.reduceAdd, Nat.reduceMul, reduceCtorEq, decide_true, decide_false, Nat.reduceLeDiff, Int.reduceNe, Int.reduceEq, ne_eq, not_false_eq_true, and_self, AMR, bs_22, fp_26_1, fp_72_3, fp_94_0, fp_94_1, ix_22, ix_23, ld_22, ld_23, ld_26, ld_3, ld_41, ld_72, len_23, part_3, part_72, size_22, size_23, size_26, size_3, size_72, und_22, und_23, zero_22, zero_23, zero_26, zero_72, f2.ok, g2, g3, g4, g7, g16, g17, g18, rb, raB, rcB, rb6, rb7, rX2, raX, rcX, rX6, rX7, r2, ra3, rc3, r36, r37, kt5, kcb, kb4, hil', Nat.mul_one, rr4', ra4, rc4, r46, r47, e4, bs_23, bs_22 (cells_int _ _), e6, k6, e7, k7, gX7, gb6, List.set_cons_succ, List.set_cons_zero, i_next hil (by omega : s.boards.length ≤ 1000)]
      refine ih (s.boards.length - (i + 1)) _ _ (by omega) ?_
      have ln1 : (ownB k (s.boards.take (i + 1)) (hs.take (i + 1))).length = n + 1 := by rw [st.1, List.length_append, hnn]; rfl
      refine ⟨i + 1, .slice (some ⟨H.next + 1 + 1, 0, some 5⟩) (n + 1) (n + 1), by omega, rfl, by simp [upd_at, g2], by simp [upd_at, g3], by simp [upd_at, g4], by simp [upd_at, g7], by simp [upd_at, g16], by simp [upd_at, g17], by simp [upd_at], Heap.get_set_self _ _ _, ?_, ?_, ?_, f8, by rw [Heap.next_set]; omega, by rw [rowAt_set_lt _ (by omega)]; exact r37, by rw [rowAt_set_lt _ (by omega)]; exact at7 _ _ (by omega) (at6 _ _ (by omega) (fbb.row' k2 t2))⟩
      · rw [ln1, st.1, List.flatMap_append]
        have q : SL h1.next (h7.set (h.next + 1 + 1) (.row [.slice p1 s.offs.length c1, .slice (some ⟨H.next + 1 + 1, 0, some 5⟩) (n + 1) (n + 1), .slice p3 s.tars.length c3] 0 true)) _ _ 5 (n + 1) := q6'.keep fun b hb => Heap.get_set_ne _ _ (by simp [blkOf] at hb; omega)
        simpa using q
      · rw [ln1, st.2, List.flatMap_append]
        have q : SL h1.next (h7.set (h.next + 1 + 1) (.row [.slice p1 s.offs.length c1, .slice (some ⟨H.next + 1 + 1, 0, some 5⟩) (n + 1) (n + 1), .slice p3 s.tars.length c3] 0 true)) _ _ 1 (n + 1) := q7.keep fun b hb => Heap.get_set_ne _ _ (by simp [blkOf] at hb; omega)
        simpa [upd_at, ints] using q
      · intro x hx
        simp [upd_at, blkOf] at hx ⊢
        omega
  · have : i = s.boards.length := by omega
    subst this
    rw [List.take_of_length_le (Nat.le_refl _), List.take_of_length_le (by omega)] at qB qH
    obtain ⟨pB, cB, rfl⟩ := qB.value
    obtain ⟨pH, cH, eH⟩ := qH.value
    rw [eH] at qH
    have LB : LS h' (.slice pB (ownB k s.boards hs).length cB) (ownB k s.boards hs) Board.cells 5 := SL.ls Board.len qB
    have LH : LS h' (.slice pH (ownB k s.boards hs).length cH) (ownH k s.boards hs) ints 1 := SL.ls ints_len (by rw [own_len]; exact qH)
    have hq' := qtys_own_b (k := k) hq
    have hle := own_le k s.boards hs
    have rX : rowAt h' (h.next + 1 + 1) = some [.slice p1 s.offs.length c1, .slice pB (ownB k s.boards hs).length cB, .slice p3 s.tars.length c3] := by unfold rowAt; rw [gX]; rfl
    have hsX : IsSheet h' (.slice p1 s.offs.length c1) (.slice pB (ownB k s.boards hs).length cB) (.slice p3 s.tars.length c3) ⟨s.offs, ownB k s.boards hs, s.tars⟩ := ⟨(hsh'.fr hk fr).offs, LB, (hsh'.fr hk fr).tars⟩
    simp (maxDischargeDepth := 30) only [AMS, AMH, ↓reduceIte, Nat.reduceLT, Nat.reduceEqDiff, Nat.reduceAdd, Nat.reduceMul, reduceCtorEq, decide_true, decide_false, Nat.reduceLeDiff, Int.reduceNe, Int.reduceEq, ne_eq, not_false_eq_true, and_self, bs_22, fp_26_1, fp_72_3, fp_94_0, fp_94_1, ix_22, ix_23, ld_22, ld_23, ld_26, ld_3, ld_41, ld_72, len_23, part_3, part_72, size_22, size_23, size_26, size_3, size_72, und_22, und_23, zero_22, zero_23, zero_26, zero_72, k', g4, g7, g17, g18, lt_f]
    refine W_draw [(true, 0), (true, 1), (true, 3), (true, 2), (false, 3), (true, 4), (true, 5)] (by kernel_rfl) ?_
    simp (maxDischargeDepth := 30) only [AMS, AMH, ↓reduceIte, Nat.reduceLT, Nat.reduceEqDiff, Nat.reduceAdd, Nat.reduceMul, reduceCtorEq, decide_true, decide_false, Nat.reduceLeDiff, Int.reduceNe, Int.reduceEq, ne_eq, not_false_eq_true, and_self, bs_22, fp_26_1, fp_72_3, fp_94_0, fp_94_1, ix_22, ix_23, ld_22, ld_23, ld_26, ld_3, ld_41, ld_72, len_23, part_3, part_72, size_22, size_23, size_26, size_3, size_72, und_22, und_23, zero_22, zero_23, zero_26, zero_72, k', g4, g7, rX, t', kt, eH]
    refine W_callP (bill_72 k' hsX LH) ?_
    rintro bv h4 ⟨m2, fr4, hm4, hb4, hmap⟩
    have f4 := fr.trans fr4
    have rX4 := fr4.row' k' rX
    have t4 := fr4.row' k' t'
    have kX : [Value.slice p1 s.offs.length c1, .slice pB (ownB k s.boards hs).length cB, .slice p3 s.tars.length c3].all selfC = true := rfl
    simp (maxDischargeDepth := 30) only [AMS, AMH, ↓reduceIte, Nat.reduceLT, Nat.reduceEqDiff, Nat.reduceAdd, Nat.reduceMul, reduceCtorEq, decide_true, decide_false, Nat.reduceLeDiff, Int.reduceNe, Int.reduceEq, ne_eq, not_false_eq_true, and_self, AMR, bs_22, fp_26_1, fp_72_3, fp_94_0, fp_94_1, ix_22, ix_23, ld_22, ld_23, ld_26, ld_3, ld_41, ld_72, len_23, part_3, part_72, size_22, size_23, size_26, size_3, size_72, und_22, und_23, zero_22, zero_23, zero_26, zero_72, f4.ok, g4, g7, rX4, t4, kt, kc, kX, eH]
    refine W_callP (paid_73 (t := t) f4.ok (by have := f4.next; omega) hb4 hmap ht (own_len k s.boards hs) (by show (ownB k s.boards hs).length ≤ 1000; omega) fun x hx => by have := hq' x hx; omega) ?_
    rintro _ h5 ⟨rfl, F5⟩
    have f45 : Fr h' h5 := F5.fr fr4 hm4
    have f5 := fr.trans f45
    have rX5 := f45.row' k' rX
    have t5 := f45.row' k' t'
    simp (maxDischargeDepth := 30) only [AMS, AMH, ↓reduceIte, Nat.reduceLT, Nat.reduceEqDiff, Nat.reduceAdd, Nat.reduceMul, reduceCtorEq, decide_true, decide_false, Nat.reduceLeDiff, Int.reduceNe, Int.reduceEq, ne_eq, not_false_eq_true, and_self, AMR, bs_22, fp_26_1, fp_72_3, fp_94_0, fp_94_1, ix_22, ix_23, ld_22, ld_23, ld_26, ld_3, ld_41, ld_72, len_23, part_3, part_72, size_22, size_23, size_26, size_3, size_72, und_22, und_23, zero_22, zero_23, zero_26, zero_72, f5.ok, g4, g7, rX5, t5, kt, kc, kX, eH]
    exact ⟨rfl, f5⟩
end Go.Am
