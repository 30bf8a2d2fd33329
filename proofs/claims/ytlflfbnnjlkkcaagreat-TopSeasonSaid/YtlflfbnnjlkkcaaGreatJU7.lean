/- Parts U7, U8, U9 of the abstract machine over this program, joined: what each part says stands at its head. -/
import Derived.Test.YtlflfbnnjlkkcaaGreatJU3
set_option linter.unusedSimpArgs false
set_option linter.unusedVariables false
set_option linter.defProp false
namespace Go.Am
open Go Go.Proofs
def F76_U7 := A2 @fp_166_4 <| A2 @ld_166 <| A2 @ld_177 @ld_4
def F164_U7 := A2 @bs_22 <| A2 @ix_22 <| A2 @ld_166 <| A2 @ld_177 <| A2 @ld_3 <| A2 @len_22 <| A2 @part_3 <| A2 @size_22 <| A2 @size_3 <| A2 @und_22 @zero_22
theorem append_frm {m N : Nat} {h2 h3 h5 : Heap} {out : Value} {l : List Value} {n : Nat} (F : FrM m h2 h3) (R : RK h2 h3) (hk2 : HOK h2) (q : SL h2.next h3 out l 1 n) (hm : m < h2.next) (k5 : HOK h5) (n5 : h5.next = h3.next + N) (g5 : ∀ i, i < h3.next → blkOf out ≠ some i → h5.get i = h3.get i) :
    FrM m h2 h5 ∧ RK h2 h5 := by
  have lt : ∀ i, i < h2.next → h5.get i = h3.get i := fun i hi => g5 i (Nat.lt_of_lt_of_le hi F.next) fun hb => by
    have := (q.blk_lt F.ok hb).1; omega
  have nx : h2.next ≤ h5.next := by have := F.next; omega
  refine ⟨⟨k5, nx, fun i hi hne => (lt i hi).trans (F.get i hi hne), ?_⟩, k5, nx, fun i l s o hr => ?_⟩
  · obtain ⟨es, c, e, mm⟩ := F.map
    exact ⟨es, c, by rw [lt m hm]; exact e, mm⟩
  · rw [lt i (get_lt hk2 hr)]; exact R.row _ _ _ _ hr
theorem rnd_b {rule a b : Int} (ha : 0 ≤ a) (hb : 1 ≤ b) : 0 ≤ rnd rule a b ∧ rnd rule a b ≤ 2 * a + b := by
  unfold rnd
  split
  · have := div_b ha hb; unfold rDown; omega
  split
  · have := div_b (a := a + b - 1) (by omega) hb; unfold rUp; omega
  split
  · have := div_b (a := 2 * a + b) (b := 2 * b) (by omega) (by omega); unfold rNear; omega
  · have := div_b (a := 2 * a + b) (b := 2 * b) (by omega) (by omega)
    unfold rEven
    split
    · rename_i hc
      have : 0 ≤ rNear a b ∧ rNear a b ≤ 2 * a + b := this
      have h1 := hc.2
      have : rNear a b ≠ 0 := by intro h0; rw [h0] at h1; simp at h1
      omega
    · exact this
theorem price1_b {t : Tar} {q : Int} (ht : t.ok = true) (hq : 0 ≤ q) (hq' : q ≤ 1000000) : 0 ≤ price1 t q ∧ price1 t q ≤ 1000000012 := by
  have tk := Tar.ok_at ht
  have hq2 : 0 ≤ q * t.coins := Int.mul_nonneg hq (by omega)
  have hq3 : q * t.coins ≤ 1000000 * 500 := Int.mul_le_mul hq' (by omega) (by omega) (by omega)
  have := rnd_b (rule := t.rule - 1) hq2 (b := t.units) (by omega)
  unfold price1; omega
def parts (t : Tar) (bs : List Board) (hs : List Int) : List Int := (qtys t bs hs).map (price1 t)
def paid (t : Tar) (bs : List Board) (hs : List Int) : Int := if t.each then sumI (parts t bs hs) else price1 t (sumI (qtys t bs hs))
set_option maxRecDepth 10000 in
set_option maxHeartbeats 1000000 in
theorem parts_75 {h : Heap} (hk : HOK h) (hp : 0 < h.next) {v : Value} {s : Sheet} {hs : List Int} {m : Nat} {t : Tar} (hv : IsBill h v s hs m) (hm : HasMap h m) (ht : t.ok = true) (hl : hs.length = s.boards.length) (hn : s.boards.length ≤ 1000) (hq : ∀ x ∈ qtys t s.boards hs, 0 ≤ x ∧ x ≤ 1000) :
    CW CC 164 [v, .agg ⟨t.cells⟩] h fun r h' => SL h.next h' r ((parts t s.boards hs).flatMap ints) 1 s.boards.length ∧ FrM m h h' := by
  have tk := Tar.ok_at ht
  have hb := hv
  have hml := hm.lt hk
  have hlen := qtys_len (t := t) hl
  obtain ⟨a, b, c, d, rfl, hsh, hh⟩ := hv.ex
  obtain ⟨p1, c1, rfl, _⟩ := hsh.offs.open
  obtain ⟨p2, c2, rfl, _⟩ := hsh.boards.open
  obtain ⟨p3, c3, rfl, _⟩ := hsh.tars.open
  obtain ⟨p4, c4, rfl, _⟩ := hh.open
  refine CW_in Tryz.f164 (by kernel_rfl) (by kernel_rfl) rfl rfl ?_
  simp only [Tryz.f164]
  have kt : take? t.cells 0 5 = some t.cells := rfl
  have f1 : ∀ x y, Fr h ((h.alloc x).alloc y) := fun x y => ((Fr.refl hk).alloc x).alloc y
  have ra : ∀ y, rowAt ((h.alloc (.row [.slice p1 s.offs.length c1, .slice p2 s.boards.length c2, .slice p3 s.tars.length c3, .slice p4 hs.length c4, .map (some m)] 0 true)).alloc y) h.next = some [.slice p1 s.offs.length c1, .slice p2 s.boards.length c2, .slice p3 s.tars.length c3, .slice p4 hs.length c4, .map (some m)] := fun y => by
    rw [rowAt_old _ (by simp), rowAt_new]
  simp (maxDischargeDepth := 30) only [AA, ↓reduceIte, Nat.reduceLT, Nat.reduceEqDiff, Nat.reduceAdd, Nat.reduceMul, reduceCtorEq, Nat.reduceLeDiff, Int.reduceNe, Int.reduceEq, F164_U7, hk, kt]
  refine W_call (quantities_107 (t := t) (f1 _ _).ok (by simp) (hb.fr hk (f1 _ _)) tk.1 tk.2.1 hl hn) ?_
  rintro qv h2 ⟨sq, fr2⟩
  have f2 := (f1 _ _).trans fr2
  have k2 := f2.ok
  have r2 := fr2.row' (f1 _ _).ok (ra (.row t.cells 0 true))
  have r3 : rowAt h2 (h.next + 1) = some t.cells := fr2.row' (f1 _ _).ok (rowAt_at t.cells 0 true (by simp))
  have hm2 := hm.fr hk f2
  have hml2 := hm2.lt k2
  have lq : LS h2 qv (qtys t s.boards hs) ints 1 := SL.ls ints_len (by rw [hlen]; exact (by simpa using sq))
  have hb2 := hb.fr hk f2
  have n2 : h.next + 2 ≤ h2.next := by have := fr2.next; simp at this; omega
  clear fr2 sq f1 ra
  obtain ⟨pq, cq, rfl, xq⟩ := lq.open
  simp (maxDischargeDepth := 30) only [AA, ↓reduceIte, Nat.reduceLT, Nat.reduceEqDiff, Nat.reduceAdd, Nat.reduceMul, reduceCtorEq, Nat.reduceLeDiff, Int.reduceNe, Int.reduceEq, F164_U7, k2]
  rw [hlen] at lq ⊢
  refine W_loop s.boards.length (fun m' f h' => ∃ i, i ≤ s.boards.length ∧ m' = s.boards.length - i ∧ f 2 = .pointer (some ⟨h.next, 0, none⟩) ∧ f 3 = .pointer (some ⟨h.next + 1, 0, none⟩) ∧ f 11 = .slice pq s.boards.length cq ∧ f 12 = .int .i64 s.boards.length ∧ f 13 = .int .i64 i ∧
      SL h2.next h' (f 5) (((parts t s.boards hs).take i).flatMap ints) 1 i ∧ FrM m h2 h' ∧ RK h2 h')
    ⟨0, by omega, by omega, by simp [upd_at], by simp [upd_at], by simp [upd_at], by simp [upd_at], by simp [upd_at], by simpa [upd_at] using SL.nil h2.next h2 1, (Fr.refl k2).frM k2 hm2, RK.refl k2⟩ ?_
  rintro m' f h' ⟨i, hi, rfl, g2, g3, g11, g12, g13, q5, F, R⟩ ih
  have k' := F.ok
  by_cases hil : i < s.boards.length
  · obtain ⟨x, gx⟩ : ∃ x, (qtys t s.boards hs)[i]? = some x := ⟨_, List.getElem?_eq_getElem (by omega)⟩
    have hx := hq x (List.mem_of_getElem? gx)
    rcases xq with hx' | ⟨bq, oq, spq, rowq, rfl, rrq, xq⟩
    · have := hlen; rw [hx'] at this; simp at this; omega
    have e1 : rowq[oq + i]? = some (.int .i64 x) := by simpa [ints] using (xq _ _ gx).2 0 (by omega)
    have rr' := R.rowAt rrq
    have r2' := R.rowAt r2
    have r3' := R.rowAt r3
    obtain ⟨_, h3, e3, rfl, F3⟩ := price_106 (t := t) (q := x) k' (hb2.rk R) F.map ht hx.1 (by omega)
    have R3 := F3.rk k' F.map
    have F' := F.trans F3
    have R' := R.trans R3
    obtain ⟨h5, e5, q5', k5, n5, g5⟩ := append_raw (ts := []) app_22 (N := h2.next) F3.ok F'.next (by have := F'.next; omega) (q5.rk R3) (v := .int .i64 (price1 t x)) rfl (by omega)
    obtain ⟨F5, R5⟩ := append_frm F' R' k2 (q5.rk R3) hml2 k5 n5 g5
    simp (maxDischargeDepth := 30) only [AA, ↓reduceIte, Nat.reduceLT, Nat.reduceEqDiff, Nat.reduceAdd, Nat.reduceMul, reduceCtorEq, Nat.reduceLeDiff, Int.reduceNe, Int.reduceEq, F164_U7, k', F3.ok, g2, g3, g11, g12, g13, lt_t hil, hil, rr', Nat.mul_one, e1, r2', r3', kt, e3, bs_22 (cells_int _ _), e5, i_next hil hn]
    refine ih (s.boards.length - (i + 1)) _ _ (by omega) ?_
    refine ⟨i + 1, by omega, rfl, by simp [upd_at, g2], by simp [upd_at, g3], by simp [upd_at, g11], by simp [upd_at, g12], by simp [upd_at], ?_, F5, R5⟩
    have : (parts t s.boards hs)[i]? = some (price1 t x) := by simp [parts, gx]
    rw [take_snoc this, List.flatMap_append]
    simpa [upd_at, ints] using q5'
  · have : i = s.boards.length := by omega
    subst this
    simp (maxDischargeDepth := 30) only [AA, ↓reduceIte, Nat.reduceLT, Nat.reduceEqDiff, Nat.reduceAdd, Nat.reduceMul, reduceCtorEq, Nat.reduceLeDiff, Int.reduceNe, Int.reduceEq, F164_U7, k', g2, g3, g11, g12, g13, lt_f]
    refine ⟨?_, (f2.frM hk hm).trans F⟩
    rw [List.take_of_length_le (by simp [parts, hlen])] at q5
    exact q5.weak (by omega)
set_option maxRecDepth 10000 in
set_option maxHeartbeats 1000000 in
theorem paid_73 {h : Heap} (hk : HOK h) (hp : 0 < h.next) {v : Value} {s : Sheet} {hs : List Int} {m : Nat} {t : Tar} (hv : IsBill h v s hs m) (hm : HasMap h m) (ht : t.ok = true) (hl : hs.length = s.boards.length) (hn : s.boards.length ≤ 1000) (hq : ∀ x ∈ qtys t s.boards hs, 0 ≤ x ∧ x ≤ 1000) :
    CW CC 76 [v, .agg ⟨t.cells⟩] h fun r h' => r = .int .i64 (paid t s.boards hs) ∧ FrM m h h' := by
  have tk := Tar.ok_at ht
  have hb := hv
  have hml := hm.lt hk
  have hlen := qtys_len (t := t) hl
  have hsum := sumI_bound hq
  obtain ⟨a, b, c, d, rfl, hsh, hh⟩ := hv.ex
  obtain ⟨p1, c1, rfl, _⟩ := hsh.offs.open
  obtain ⟨p2, c2, rfl, _⟩ := hsh.boards.open
  obtain ⟨p3, c3, rfl, _⟩ := hsh.tars.open
  obtain ⟨p4, c4, rfl, _⟩ := hh.open
  have f1 : ∀ x y, Fr h ((h.alloc x).alloc y) := fun x y => ((Fr.refl hk).alloc x).alloc y
  have ra : ∀ y, rowAt ((h.alloc (.row [.slice p1 s.offs.length c1, .slice p2 s.boards.length c2, .slice p3 s.tars.length c3, .slice p4 hs.length c4, .map (some m)] 0 true)).alloc y) h.next = some [.slice p1 s.offs.length c1, .slice p2 s.boards.length c2, .slice p3 s.tars.length c3, .slice p4 hs.length c4, .map (some m)] := fun y => by
    rw [rowAt_old _ (by simp), rowAt_new]
  have kt : take? t.cells 0 5 = some t.cells := rfl
  have k4 : t.cells[4]? = some (.bool t.each) := rfl
  have kc : t.cells.all selfC = true := rfl
  refine CW_in Tryz.f76 (by kernel_rfl) (by kernel_rfl) rfl rfl ?_
  simp only [Tryz.f76]
  cases he : t.each with
  | true =>
    simp (maxDischargeDepth := 30) only [AA, ↓reduceIte, Nat.reduceLT, Nat.reduceEqDiff, Nat.reduceAdd, Nat.reduceMul, reduceCtorEq, Nat.reduceLeDiff, Int.reduceNe, Int.reduceEq, F76_U7, hk, kt, k4, he]
    refine W_call (parts_75 (t := t) (f1 _ _).ok (by simp) (hb.fr hk (f1 _ _)) (hm.fr hk (f1 _ _)) ht hl hn hq) ?_
    rintro pv h2 ⟨sp, F2⟩
    have F := ((f1 _ _).frM hk hm).trans F2
    have lp : LS h2 pv (parts t s.boards hs) ints 1 := SL.ls ints_len (by rw [show (parts t s.boards hs).length = s.boards.length by simp [parts, hlen]]; exact sp)
    simp (maxDischargeDepth := 30) only [AA, ↓reduceIte, Nat.reduceLT, Nat.reduceEqDiff, Nat.reduceAdd, Nat.reduceMul, reduceCtorEq, Nat.reduceLeDiff, Int.reduceNe, Int.reduceEq, F76_U7]
    refine W_call (sum_105 _ _ _ lp (by simp [parts, hlen]; omega) fun x hx => ?_) ?_
    · obtain ⟨q, hq1, rfl⟩ := List.mem_map.1 hx
      have := hq q hq1
      have := price1_b ht this.1 (by omega)
      omega
    rintro _ _ ⟨rfl, rfl⟩
    simp (maxDischargeDepth := 30) only [AA, ↓reduceIte, Nat.reduceLT, Nat.reduceEqDiff, Nat.reduceAdd, Nat.reduceMul, reduceCtorEq, Nat.reduceLeDiff, Int.reduceNe, Int.reduceEq, F76_U7]
    exact ⟨by simp [paid, he], F⟩
  | false =>
    simp (maxDischargeDepth := 30) only [AA, ↓reduceIte, Nat.reduceLT, Nat.reduceEqDiff, Nat.reduceAdd, Nat.reduceMul, reduceCtorEq, Nat.reduceLeDiff, Int.reduceNe, Int.reduceEq, F76_U7, hk, kt, k4, he]
    refine W_draw [(true, 0), (true, 1), (true, 2), (true, 3), (true, 4), (false, 0), (false, 1), (true, 5), (false, 0), (false, 1), (true, 6), (true, 7)] (by kernel_rfl) ?_
    simp (maxDischargeDepth := 30) only [AA, ↓reduceIte, Nat.reduceLT, Nat.reduceEqDiff, Nat.reduceAdd, Nat.reduceMul, reduceCtorEq, Nat.reduceLeDiff, Int.reduceNe, Int.reduceEq, F76_U7, hk, kt, k4, he]
    refine W_callP (quantities_107 (t := t) (f1 _ _).ok (by simp) (hb.fr hk (f1 _ _)) tk.1 tk.2.1 hl hn) ?_
    rintro qv h2 ⟨sq, fr2⟩
    have f2 := (f1 _ _).trans fr2
    have k2 := f2.ok
    have r2 := fr2.row' (f1 _ _).ok (ra (.row t.cells 0 true))
    have r3 : rowAt h2 (h.next + 1) = some t.cells := fr2.row' (f1 _ _).ok (rowAt_at t.cells 0 true (by simp))
    have lq : LS h2 qv (qtys t s.boards hs) ints 1 := SL.ls ints_len (by rw [hlen]; exact (by simpa using sq))
    have hm2 := hm.fr hk f2
    simp (maxDischargeDepth := 30) only [AA, ↓reduceIte, Nat.reduceLT, Nat.reduceEqDiff, Nat.reduceAdd, Nat.reduceMul, reduceCtorEq, Nat.reduceLeDiff, Int.reduceNe, Int.reduceEq, AMR, F76_U7, k2, kt, k4, kc, r2, r3]
    refine W_callP (sum_105 _ _ _ lq (by rw [hlen]; omega) fun x hx => ?_) ?_
    · have := hq x hx; omega
    rintro _ _ ⟨rfl, rfl⟩
    simp (maxDischargeDepth := 30) only [AA, ↓reduceIte, Nat.reduceLT, Nat.reduceEqDiff, Nat.reduceAdd, Nat.reduceMul, reduceCtorEq, Nat.reduceLeDiff, Int.reduceNe, Int.reduceEq, AMR, F76_U7, k2, kt, k4, kc, r2, r3]
    have hb3 : (qtys t s.boards hs).length ≤ 1000 := by rw [hlen]; exact hn
    refine W_callP (price_106 (t := t) (q := sumI (qtys t s.boards hs)) k2 (hb.fr hk f2) hm2 ht hsum.1 (by omega)) ?_
    rintro _ h3 ⟨rfl, F3⟩
    simp (maxDischargeDepth := 30) only [AA, ↓reduceIte, Nat.reduceLT, Nat.reduceEqDiff, Nat.reduceAdd, Nat.reduceMul, reduceCtorEq, Nat.reduceLeDiff, Int.reduceNe, Int.reduceEq, F76_U7]
    exact ⟨by simp [paid, he], (f2.frM hk hm).trans F3⟩
end Go.Am

namespace Go.Am
open Go Go.Proofs
def F25_U8 := A2 @bld_25 <| A2 @fld_25_0 <| A2 @fld_25_1 <| A2 @fp_47_2 <| A2 @ix_45 <| A2 @ld_166 <| A2 @ld_25 <| A2 @ld_45 <| A2 @ld_47 <| A2 @part_166 <| A2 @size_166 <| A2 @size_25 <| A2 @size_45 <| A2 @sp_25_0 <| A2 @sp_25_1 <| A2 @und_45 <| A2 @zero_166 <| A2 @zero_25 @zero_45
def F74_U8 := A2 @bs_22 <| A2 @fp_25_0 <| A2 @fp_25_1 <| A2 @fp_47_1 <| A2 @fp_89_2 <| A2 @ix_22 <| A2 @ix_44 <| A2 @ld_3 <| A2 @ld_44 <| A2 @ld_89 <| A2 @len_44 <| A2 @part_3 <| A2 @part_89 <| A2 @size_22 <| A2 @size_3 <| A2 @size_44 <| A2 @size_89 <| A2 @und_22 <| A2 @und_44 <| A2 @zero_22 <| A2 @zero_44 @zero_89
theorem bill_72 {h : Heap} (hk : HOK h) {a b c v : Value} {s : Sheet} {hs : List Int} (hsh : IsSheet h a b c s) (hv : LS h v hs ints 1) :
    CW CC 75 [.agg ⟨[a, b, c]⟩, v] h fun r h' => ∃ m, Fr h h' ∧ h.next ≤ m ∧ IsBill h' r s hs m ∧ HasMap h' m := by
  obtain ⟨p1, c1, rfl, _⟩ := hsh.offs.open
  obtain ⟨p2, c2, rfl, _⟩ := hsh.boards.open
  obtain ⟨p3, c3, rfl, _⟩ := hsh.tars.open
  obtain ⟨p4, c4, rfl, _⟩ := hv.open
  refine CW_in Tryz.f75 (by kernel_rfl) (by kernel_rfl) rfl rfl ?_
  simp only [Tryz.f75]
  simp (maxDischargeDepth := 30) only [AA, ↓reduceIte, Nat.reduceLT, Nat.reduceEqDiff, Nat.reduceAdd, Nat.reduceMul, reduceCtorEq, Nat.reduceLeDiff, Int.reduceNe, Int.reduceEq, bld_177, fld_177_0, fld_177_1, fld_177_2, ld_177, ld_47, size_175, size_177, sp_177_0, sp_177_1, sp_177_2, und_175, zero_175, zero_177, hk]
  have f : ∀ x y z w, Fr h ((((h.alloc x).alloc y).alloc z).set (h.next + 1) w) := fun x y z w => ((((Fr.refl hk).alloc x).alloc y).alloc z).set (by omega) (by simp) w
  refine ⟨h.next + 1 + 1, f _ _ _ _, by omega, ⟨_, _, _, _, rfl, hsh.fr hk (f _ _ _ _), hv.fr hk (f _ _ _ _)⟩, [], 0, ?_, fun e he => by simp at he⟩
  rw [Heap.get_set_ne _ _ (by omega)]
  exact get_at _ (by simp)
def endOf (high : Bool) (b : Board) : Int := if high then b.hi else b.lo
def endsL (high : Bool) (bs : List Board) : List Int := bs.map (endOf high)
set_option maxRecDepth 10000 in
set_option maxHeartbeats 1000000 in
theorem bounds_71 {h : Heap} (hk : HOK h) (hp : 0 < h.next) {a b c : Value} {s : Sheet} (hsh : IsSheet h a b c s) (hn : s.boards.length ≤ 1000) :
    CW CC 74 [.agg ⟨[a, b, c]⟩] h fun r h' => ∃ v w, r = .tuple ⟨[v, w]⟩ ∧ SL h.next h' v ((endsL false s.boards).flatMap ints) 1 s.boards.length ∧ SL h.next h' w ((endsL true s.boards).flatMap ints) 1 s.boards.length ∧ Fr h h' := by
  obtain ⟨p1, c1, rfl, _⟩ := hsh.offs.open
  obtain ⟨p2, c2, rfl, x2⟩ := hsh.boards.open
  obtain ⟨p3, c3, rfl, _⟩ := hsh.tars.open
  refine CW_in Tryz.f74 (by kernel_rfl) (by kernel_rfl) rfl rfl ?_
  simp only [Tryz.f74]
  simp (maxDischargeDepth := 30) only [AA, ↓reduceIte, Nat.reduceLT, Nat.reduceEqDiff, Nat.reduceAdd, Nat.reduceMul, reduceCtorEq, Nat.reduceLeDiff, Int.reduceNe, Int.reduceEq, F74_U8, hk]
  have f1 : Fr h (h.alloc (.row [.slice p1 s.offs.length c1, .slice p2 s.boards.length c2, .slice p3 s.tars.length c3] 0 true)) := (Fr.refl hk).alloc _
  refine W_loop s.boards.length (fun m' f h' => ∃ i, i ≤ s.boards.length ∧ m' = s.boards.length - i ∧ f 9 = .slice p2 s.boards.length c2 ∧ f 10 = .int .i64 s.boards.length ∧ f 11 = .int .i64 i ∧
      SL h.next h' (f 4) (((endsL false s.boards).take i).flatMap ints) 1 i ∧ SL h.next h' (f 5) (((endsL true s.boards).take i).flatMap ints) 1 i ∧ (∀ b, blkOf (f 4) = some b → blkOf (f 5) ≠ some b) ∧ Fr h h' ∧ 0 < h'.next)
    ⟨0, by omega, by omega, by simp [upd_at], by simp [upd_at], by simp [upd_at], by simpa [upd_at] using SL.nil h.next _ 1, by simpa [upd_at] using SL.nil h.next _ 1, by simp [upd_at, blkOf], f1, by simp⟩ ?_
  clear f1
  rintro m' f h' ⟨i, hi, rfl, g9, g10, g11, q4, q5, nb, fr, m2⟩ ih
  have k' := fr.ok
  by_cases hil : i < s.boards.length
  · obtain ⟨x, gx⟩ : ∃ x, s.boards[i]? = some x := ⟨_, List.getElem?_eq_getElem hil⟩
    rcases x2 with hx | ⟨b2, o2, sp2, row2, rfl, rr2, x2⟩
    · rw [hx] at hil; simp at hil
    have rr2' := fr.row' hk rr2
    have e1 : take? row2 (o2 + i * 5) 5 = some x.cells := (x2 _ _ gx).1
    have kx : take? x.cells 0 5 = some x.cells := rfl
    have lx : x.cells.length = 5 := rfl
    have ax : allOne x.cells = true := rfl
    have cl : x.cells[2]? = some (.int .i64 x.lo) := rfl
    have ch : x.cells[3]? = some (.int .i64 x.hi) := rfl
    simp (maxDischargeDepth := 30) only [AA, ↓reduceIte, Nat.reduceLT, Nat.reduceEqDiff, Nat.reduceAdd, Nat.reduceMul, reduceCtorEq, Nat.reduceLeDiff, Int.reduceNe, Int.reduceEq, F74_U8, k', g9, g10, g11, lt_t hil, hil, rr2', e1, kx, lx, ax]
    refine W_draw [(true, 0), (true, 1), (true, 2), (true, 3), (true, 4), (true, 6), (true, 7), (true, 8), (true, 9), (true, 10), (true, 5), (false, 9), (false, 10), (true, 11), (true, 12), (true, 13)] (by kernel_rfl) ?_
    have fb : Fr h ((h'.alloc (.row [.int .i64 0, .int .i64 0, .int .i64 0, .int .i64 0, .int .i64 0] 0 true)).set h'.next (.row x.cells 0 true)) := (fr.alloc _).set (by have := fr.next; omega) (by simp) _
    have keepB : ∀ b, b < h'.next → ((h'.alloc (.row [.int .i64 0, .int .i64 0, .int .i64 0, .int .i64 0, .int .i64 0] 0 true)).set h'.next (.row x.cells 0 true)).get b = h'.get b := fun b hb => by
      rw [Heap.get_set_ne _ _ (by omega), Heap.get_alloc_ne _ _ (by omega)]
    have q4b := q4.keep fun b hb => keepB b (q4.blk_lt k' hb).2
    have q5b := q5.keep fun b hb => keepB b (q5.blk_lt k' hb).2
    have rB : rowAt ((h'.alloc (.row [.int .i64 0, .int .i64 0, .int .i64 0, .int .i64 0, .int .i64 0] 0 true)).set h'.next (.row x.cells 0 true)) h'.next = some x.cells := rowAt_set_self _ _ _ _ _
    have nB : ((h'.alloc (.row [.int .i64 0, .int .i64 0, .int .i64 0, .int .i64 0, .int .i64 0] 0 true)).set h'.next (.row x.cells 0 true)).next = h'.next + 1 := by simp
    have bl4 := fun b hb => (q4.blk_lt k' (b := b) hb).2
    have bl5 := fun b hb => (q5.blk_lt k' (b := b) hb).2
    generalize ((h'.alloc (.row [.int .i64 0, .int .i64 0, .int .i64 0, .int .i64 0, .int .i64 0] 0 true)).set h'.next (.row x.cells 0 true)) = hB at fb q4b q5b rB nB ⊢
    have kB := fb.ok
    have fC : Fr h ((hB.alloc (.row [.int .i64 x.lo] 1 true)).alloc (.row [.int .i64 x.hi] 1 true)) := (fb.alloc _).alloc _
    have q4c := (q4b.fr kB ((Fr.refl kB).alloc (.row [.int .i64 x.lo] 1 true))).fr (kB.alloc _) ((Fr.refl (kB.alloc _)).alloc (.row [.int .i64 x.hi] 1 true))
    have q5c := (q5b.fr kB ((Fr.refl kB).alloc (.row [.int .i64 x.lo] 1 true))).fr (kB.alloc _) ((Fr.refl (kB.alloc _)).alloc (.row [.int .i64 x.hi] 1 true))
    have rlo : rowAt ((hB.alloc (.row [.int .i64 x.lo] 1 true)).alloc (.row [.int .i64 x.hi] 1 true)) hB.next = some [.int .i64 x.lo] := by rw [rowAt_old _ (by simp), rowAt_new]
    have rhi : ((hB.alloc (.row [.int .i64 x.lo] 1 true)).alloc (.row [.int .i64 x.hi] 1 true)).get (hB.next + 1) = some (.row [.int .i64 x.hi] 1 true) := get_at _ (by simp)
    have rcc : rowAt ((hB.alloc (.row [.int .i64 x.lo] 1 true)).alloc (.row [.int .i64 x.hi] 1 true)) h'.next = some x.cells := by rw [rowAt_old _ (by simp; omega), rowAt_old _ (by omega)]; exact rB
    obtain ⟨h5, e5, q4', f5, n5, g5⟩ := append_at (ts := []) app_22 fC (by simp) q4c (x := .slice (some ⟨hB.next, 0, some 1⟩) 1 1) (new := [.int .i64 x.lo]) (m := 0) rfl (by
      show obind (rowAt _ hB.next) (fun cells => take? cells 0 (1 * 1)) = _
      rw [rlo]; rfl) rfl rfl (by omega)
    have n5' : h5.next = hB.next + 3 := by rw [n5]; simp
    have q5' : SL h.next h5 (f 5) (((endsL true s.boards).take i).flatMap ints) 1 i := q5c.keep fun b hb => g5 b (by simp; have := bl5 b hb; omega) (fun hc => nb b hc hb)
    have rhi5 : h5.get (hB.next + 1) = some (.row [.int .i64 x.hi] 1 true) := by
      rw [g5 _ (by simp) (fun hc => by have := bl4 _ hc; omega)]; exact rhi
    have rhi5' : rowAt h5 (hB.next + 1) = some [.int .i64 x.hi] := by unfold rowAt; rw [rhi5]; rfl
    have rcc5 : rowAt h5 h'.next = some x.cells := by
      unfold rowAt; rw [g5 _ (by simp; omega) (fun hc => by have := bl4 _ hc; omega)]; exact rcc
    obtain ⟨h7, e7, q5'', f7, n7, g7⟩ := append_at (ts := []) app_22 f5 (by omega) q5' (x := .slice (some ⟨hB.next + 1, 0, some 1⟩) 1 1) (new := [.int .i64 x.hi]) (m := 0) rfl (by
      show obind (rowAt _ (hB.next + 1)) (fun cells => take? cells 0 (1 * 1)) = _
      rw [rhi5']; rfl) rfl rfl (by omega)
    have q4'' : SL h.next h7 (.slice (some ⟨hB.next + 1 + 1, 0, some 1⟩) (i + 1) (i + 1)) (((endsL false s.boards).take (i + 1)).flatMap ints) 1 (i + 1) := by
      have : (endsL false s.boards)[i]? = some x.lo := by simp [endsL, endOf, gx]
      rw [take_snoc this, List.flatMap_append]
      have q : SL h.next h7 _ _ 1 (i + 1) := q4'.keep fun b hb => g7 b (by simp [sliceTo, blkOf] at hb; omega) (fun hc => by simp [sliceTo, blkOf] at hb; have := bl5 _ hc; omega)
      simpa [ints, sliceTo] using q
    have q5f : SL h.next h7 (.slice (some ⟨h5.next, 0, some 1⟩) (i + 1) (i + 1)) (((endsL true s.boards).take (i + 1)).flatMap ints) 1 (i + 1) := by
      have : (endsL true s.boards)[i]? = some x.hi := by simp [endsL, endOf, gx]
      rw [take_snoc this, List.flatMap_append]
      simpa [ints, sliceTo] using q5''
    simp only [sliceTo, Heap.next_alloc, Nat.zero_add] at e5 e7
    have kC := fC.ok
    have nlt : h'.next < hB.next := by omega
    simp (maxDischargeDepth := 30) only [AA, ↓reduceIte, Nat.reduceLT, Nat.reduceEqDiff, Nat.reduceAdd, Nat.reduceMul, reduceCtorEq, Nat.reduceLeDiff, Int.reduceNe, Int.reduceEq, AMR, F74_U8, kB, f5.ok, g9, g10, g11, rB, nlt, cl, ch, rcc, rcc5, bs_22 (cells_int _ _), e5, e7, rhi5, i_next hil hn]
    refine ih (s.boards.length - (i + 1)) _ _ (by omega) ?_
    refine ⟨i + 1, by omega, rfl, by simp [upd_at, g9], by simp [upd_at, g10], by simp [upd_at], by simpa [upd_at] using q4'', by simpa [upd_at] using q5f, ?_, f7, by omega⟩
    simp [upd_at, blkOf]; omega
  · have : i = s.boards.length := by omega
    subst this
    simp (maxDischargeDepth := 30) only [AA, ↓reduceIte, Nat.reduceLT, Nat.reduceEqDiff, Nat.reduceAdd, Nat.reduceMul, reduceCtorEq, Nat.reduceLeDiff, Int.reduceNe, Int.reduceEq, F74_U8, k', g9, g10, g11, lt_f]
    rw [List.take_of_length_le (by simp [endsL])] at q4 q5
    exact ⟨_, _, rfl, q4, q5, fr⟩
theorem hoursOK_at {bs : List Board} {l : List Int} (h : hoursOK bs l = true) : l.length = bs.length ∧ ∀ (i : Nat) x b, l[i]? = some x → bs[i]? = some b → b.lo ≤ x ∧ x ≤ b.hi := by
  unfold hoursOK at h
  obtain ⟨h1, h2⟩ := (Bool.and_eq_true _ _).mp h
  have h1 := of_decide_eq_true h1
  refine ⟨h1, fun i x b hx hb => ?_⟩
  have : (x, b) ∈ l.zip bs := List.mem_of_getElem? (i := i) (List.getElem?_zip_eq_some.2 ⟨hx, hb⟩)
  exact of_decide_eq_true (List.all_eq_true.1 h2 _ this)
theorem Sheet.ok_boards {s : Sheet} (h : s.ok = true) : ∀ b ∈ s.boards, b.ok s.offs.length = true := by
  unfold Sheet.ok at h
  simp only [Bool.and_eq_true] at h
  intro b hb
  have h2 := h.2.2.2.2.1
  rw [Bool.not_eq_true', List.any_eq_false] at h2
  have := h2 b hb
  simpa using this
theorem Sheet.ok_tars {s : Sheet} (h : s.ok = true) : ∀ t ∈ s.tars, t.ok = true := by
  unfold Sheet.ok at h
  simp only [Bool.and_eq_true] at h
  intro t ht
  have h2 := h.2.2.2.2.2
  rw [Bool.not_eq_true', List.any_eq_false] at h2
  have := h2 t ht
  simpa using this
theorem qtys_b {s : Sheet} {l : List Int} (h : s.ok = true) (hl : hoursOK s.boards l = true) (t : Tar) : ∀ x ∈ qtys t s.boards l, 0 ≤ x ∧ x ≤ 60 := by
  intro x hx
  obtain ⟨i, hi⟩ := List.mem_iff_getElem?.1 hx
  unfold qtys at hi
  rw [List.getElem?_map] at hi
  cases hz : (s.boards.zip l)[i]? with
  | none => rw [hz] at hi; simp at hi
  | some p =>
    rw [hz] at hi
    simp at hi
    obtain ⟨b, y⟩ := p
    rw [List.getElem?_zip_eq_some] at hz
    have hb := of_decide_eq_true (Sheet.ok_boards h b (List.mem_of_getElem? hz.1))
    have hy := (hoursOK_at hl).2 i y b hz.2 hz.1
    subst hi
    unfold qty
    simp only
    split
    · omega
    split
    · omega
    split
    · omega
    · omega
theorem LS.at {α : Type} {h : Heap} {p : Option Addr} {n c : Nat} {xs : List α} {f : α → List Value} {s : Nat} (hx : xs = [] ∨ ∃ b o sp row, p = some ⟨b, o, sp⟩ ∧ rowAt h b = some row ∧ ∀ (i : Nat) x, xs[i]? = some x → take? row (o + i * s) s = some (f x) ∧ ∀ j, j < s → row[o + i * s + j]? = (f x)[j]?) {i : Nat} {x : α} (hi : xs[i]? = some x) :
    ∃ b o sp row, p = some ⟨b, o, sp⟩ ∧ rowAt h b = some row ∧ take? row (o + i * s) s = some (f x) := by
  rcases hx with rfl | ⟨b, o, sp, row, e, hr, hx⟩
  · simp at hi
  · exact ⟨b, o, sp, row, e, hr, (hx i x hi).1⟩
set_option maxRecDepth 10000 in
set_option maxHeartbeats 1000000 in
theorem paid_24 {h : Heap} (hk : HOK h) (hp : 0 < h.next) {a b c : Value} {s : Sheet} {i : Nat} {t : Tar} (hs : IsSheet h a b c s) (ok : s.ok = true) (ht : s.tars[i]? = some t) (hlo : hoursOK s.boards (endsL false s.boards) = true) (hhi : hoursOK s.boards (endsL true s.boards) = true) :
    CW CC 25 [.agg ⟨[a, b, c]⟩, .int .i64 i] h fun r h' => r = .tuple ⟨[.agg ⟨[.int .i64 (paid t s.boards (endsL false s.boards)), .int .i64 (paid t s.boards (endsL true s.boards))]⟩, .int .i64 0]⟩ ∧ Fr h h' := by
  have hlen := Sheet.ok_len ok
  have hil := (List.getElem?_eq_some_iff.1 ht).1
  have htok := Sheet.ok_tars ok t (List.mem_of_getElem? ht)
  have hq1 := qtys_b ok hlo t
  have hq2 := qtys_b ok hhi t
  obtain ⟨p1, c1, rfl, _⟩ := hs.offs.open
  obtain ⟨p2, c2, rfl, _⟩ := hs.boards.open
  obtain ⟨p3, c3, rfl, x3⟩ := hs.tars.open
  obtain ⟨b3, o3, sp3, row3, rfl, rr3, e3⟩ := LS.at (n := 0) (c := 0) x3 ht
  refine CW_in Tryz.f25 (by kernel_rfl) (by kernel_rfl) rfl rfl ?_
  simp only [Tryz.f25]
  have fa : ∀ x y, Fr h ((h.alloc x).alloc y) := fun x y => ((Fr.refl hk).alloc x).alloc y
  have ra : ∀ y, rowAt ((h.alloc (.row [.slice p1 s.offs.length c1, .slice p2 s.boards.length c2, .slice (some ⟨b3, o3, sp3⟩) s.tars.length c3] 0 true)).alloc y) h.next = some [.slice p1 s.offs.length c1, .slice p2 s.boards.length c2, .slice (some ⟨b3, o3, sp3⟩) s.tars.length c3] := fun y => by rw [rowAt_old _ (by simp), rowAt_new]
  have rb : ∀ x (y : List Value), ((h.alloc x).alloc (.row y 0 true)).get (h.next + 1) = some (.row y 0 true) := fun x y => get_at _ (by simp)
  have hin : (s.ok && inP i 0 (s.tars.length - 1)) = true := by
    rw [ok]; simp [inP]; omega
  simp (maxDischargeDepth := 30) only [AA, ↓reduceIte, Nat.reduceLT, Nat.reduceEqDiff, Nat.reduceAdd, Nat.reduceMul, reduceCtorEq, Nat.reduceLeDiff, Int.reduceNe, Int.reduceEq, F25_U8, hk]
  refine W_call (isOne_70 (fa _ _).ok (hs.fr hk (fa _ _)) (i : Int) (by omega)) ?_
  rintro _ h2 ⟨rfl, fr2⟩
  rw [hin]
  have f2 := (fa _ _).trans fr2
  have r2 := fr2.row' (fa _ _).ok (ra _)
  have g2 := fr2.get' (fa _ _).ok (rb _ _)
  simp (maxDischargeDepth := 30) only [AA, ↓reduceIte, Nat.reduceLT, Nat.reduceEqDiff, Nat.reduceAdd, Nat.reduceMul, reduceCtorEq, Nat.reduceLeDiff, Int.reduceNe, Int.reduceEq, F25_U8, f2.ok, r2]
  refine W_call (bounds_71 f2.ok (by have := f2.next; omega) (hs.fr hk f2) (by omega)) ?_
  rintro _ h3 ⟨lo, hi, rfl, q1, q2, fr3⟩
  have f3 := f2.trans fr3
  have r3 := fr3.row' f2.ok r2
  have g3 := fr3.get' f2.ok g2
  have l1 : LS h3 lo (endsL false s.boards) ints 1 := SL.ls ints_len (by simpa [endsL] using q1)
  have l2 : LS h3 hi (endsL true s.boards) ints 1 := SL.ls ints_len (by simpa [endsL] using q2)
  have rr3' := f3.row' hk rr3
  have kt : take? t.cells 0 5 = some t.cells := rfl
  have kc : t.cells.all selfC = true := rfl
  have tl : t.cells.length = 5 := rfl
  have ta : allOne t.cells = true := rfl
  simp (maxDischargeDepth := 30) only [AA, ↓reduceIte, Nat.reduceLT, Nat.reduceEqDiff, Nat.reduceAdd, Nat.reduceMul, reduceCtorEq, Nat.reduceLeDiff, Int.reduceNe, Int.reduceEq, F25_U8, f3.ok, r3, hil, rr3', e3, tl, ta]
  refine W_draw [(true, 0), (true, 1), (true, 3), (true, 5), (true, 6), (true, 8), (true, 2), (false, 3), (false, 5), (false, 8), (true, 4), (false, 5), (false, 8), (true, 7), (false, 8), (true, 9), (true, 10), (true, 11), (true, 12)] (by kernel_rfl) ?_
  have f4 : Fr h ((h3.alloc (.row [.int .i64 0, .int .i64 0, .int .i64 0, .int .i64 0, .bool false] 0 true)).set h3.next (.row t.cells 0 true)) := (f3.alloc _).set (by have := f3.next; omega) (by simp) _
  have f34 : Fr h3 ((h3.alloc (.row [.int .i64 0, .int .i64 0, .int .i64 0, .int .i64 0, .bool false] 0 true)).set h3.next (.row t.cells 0 true)) := ((Fr.refl f3.ok).alloc _).set (Nat.le_refl _) (by simp) _
  have rt : rowAt ((h3.alloc (.row [.int .i64 0, .int .i64 0, .int .i64 0, .int .i64 0, .bool false] 0 true)).set h3.next (.row t.cells 0 true)) h3.next = some t.cells := rowAt_set_self _ _ _ _ _
  have n34 : h3.next < ((h3.alloc (.row [.int .i64 0, .int .i64 0, .int .i64 0, .int .i64 0, .bool false] 0 true)).set h3.next (.row t.cells 0 true)).next := by simp
  generalize ((h3.alloc (.row [.int .i64 0, .int .i64 0, .int .i64 0, .int .i64 0, .bool false] 0 true)).set h3.next (.row t.cells 0 true)) = h4 at f4 f34 rt n34 ⊢
  have r4 := f34.row' f3.ok r3
  have g4 := f34.get' f3.ok g3
  have n3 : h.next + 1 < h3.next := get_lt f3.ok g3
  simp (maxDischargeDepth := 30) only [AA, ↓reduceIte, Nat.reduceLT, Nat.reduceEqDiff, Nat.reduceAdd, Nat.reduceMul, reduceCtorEq, Nat.reduceLeDiff, Int.reduceNe, Int.reduceEq, F25_U8, f4.ok, r4, rt, kt]
  refine W_callP (bill_72 f4.ok (hs.fr hk f4) (l1.fr f3.ok f34)) ?_
  rintro bv h5 ⟨m, fr5, hm5, hb5, hmap5⟩
  have f5 := f4.trans fr5
  have r5 := fr5.row' f4.ok r4
  have g5 := fr5.get' f4.ok g4
  have rt5 := fr5.row' f4.ok rt
  simp (maxDischargeDepth := 30) only [AA, ↓reduceIte, Nat.reduceLT, Nat.reduceEqDiff, Nat.reduceAdd, Nat.reduceMul, reduceCtorEq, Nat.reduceLeDiff, Int.reduceNe, Int.reduceEq, AMR, F25_U8, f5.ok, r5, rt5, kt, kc]
  refine W_callP (paid_73 (t := t) f5.ok (by have := f5.next; omega) hb5 hmap5 htok (by simp [endsL]) (by omega) fun x hx => by have := hq1 x hx; omega) ?_
  rintro _ h6 ⟨rfl, F6⟩
  have f6 : Fr h h6 := F6.fr f5 (by have := f4.next; omega)
  have f46 : Fr h4 h6 := F6.fr fr5 hm5
  have r6 := f46.row' f4.ok r4
  have g6 := f46.get' f4.ok g4
  have rt6 := f46.row' f4.ok rt
  simp (maxDischargeDepth := 30) only [AA, ↓reduceIte, Nat.reduceLT, Nat.reduceEqDiff, Nat.reduceAdd, Nat.reduceMul, reduceCtorEq, Nat.reduceLeDiff, Int.reduceNe, Int.reduceEq, AMR, F25_U8, f6.ok, r6, rt6, kt, kc]
  refine W_callP (bill_72 f6.ok (hs.fr hk f6) (l2.fr f3.ok (f34.trans f46))) ?_
  rintro bv2 h7 ⟨m2, fr7, hm7, hb7, hmap7⟩
  have f7 := f6.trans fr7
  have r7 := fr7.row' f6.ok r6
  have g7 := fr7.get' f6.ok g6
  have rt7 := fr7.row' f6.ok rt6
  simp (maxDischargeDepth := 30) only [AA, ↓reduceIte, Nat.reduceLT, Nat.reduceEqDiff, Nat.reduceAdd, Nat.reduceMul, reduceCtorEq, Nat.reduceLeDiff, Int.reduceNe, Int.reduceEq, AMR, F25_U8, f7.ok, r7, rt7, kt, kc]
  refine W_callP (paid_73 (t := t) f7.ok (by have := f7.next; omega) hb7 hmap7 htok (by simp [endsL]) (by omega) fun x hx => by have := hq2 x hx; omega) ?_
  rintro _ h8 ⟨rfl, F8⟩
  have f8 : Fr h h8 := F8.fr f7 (by have := f6.next; omega)
  have f68 : Fr h6 h8 := F8.fr fr7 hm7
  have g8 := f68.get' f6.ok g6
  have l8 := get_lt f8.ok g8
  simp (maxDischargeDepth := 30) only [AA, ↓reduceIte, Nat.reduceLT, Nat.reduceEqDiff, Nat.reduceAdd, Nat.reduceMul, reduceCtorEq, Nat.reduceLeDiff, Int.reduceNe, Int.reduceEq, AMR, F25_U8, f8.ok, g8, l8]
  exact ⟨trivial, f8.set (by omega) l8 _⟩
theorem Sheet.ok_iff {s : Sheet} : s.ok = true ↔ ((1 ≤ s.offs.length ∧ s.offs.length ≤ 3) ∧ (1 ≤ s.boards.length ∧ s.boards.length ≤ 4) ∧ (1 ≤ s.tars.length ∧ s.tars.length ≤ 3)) ∧ (∀ x ∈ s.offs, inP x 0 100 = true) ∧ (∀ b ∈ s.boards, b.ok s.offs.length = true) ∧ ∀ t ∈ s.tars, t.ok = true := by
  have hx : ∀ {α : Type} (l : List α) (p : α → Bool), (!l.any fun x => !p x) = true ↔ ∀ x ∈ l, p x = true := by intro α l p; simp
  unfold Sheet.ok
  simp only [Bool.and_eq_true, hx]
  constructor
  · rintro ⟨h1, h2, h3, h4, h5, h6⟩
    have h1 := of_decide_eq_true h1
    have h2 := of_decide_eq_true h2
    have h3 := of_decide_eq_true h3
    exact ⟨by omega, h4, h5, h6⟩
  · rintro ⟨h1, h4, h5, h6⟩
    exact ⟨decide_eq_true (by omega), decide_eq_true (by omega), decide_eq_true (by omega), h4, h5, h6⟩
end Go.Am

namespace Go.Am
open Go Go.Proofs
theorem le_of_mul_le {a b c : Int} (h : a * c ≤ b * c) (hc : 0 < c) : a ≤ b := Int.le_of_mul_le_mul_right h hc
theorem lt_of_mul_lt {a b c : Int} (h : a * c < b * c) (hc : 0 ≤ c) : a < b := Int.lt_of_mul_lt_mul_right h hc
def ownOf (k : Int) (p : Board × Int) : Int := if p.1.ow == k then p.2 else 0
def ownSum (k : Int) (bs : List Board) (l : List Int) : Int := sumI ((bs.zip l).map (ownOf k))
def ownParts (n : Nat) (bs : List Board) (l : List Int) : List Int := (List.range n).map fun (k : Nat) => ownSum k bs l
theorem ownParts_len (n : Nat) (bs : List Board) (l : List Int) : (ownParts n bs l).length = n := by simp [ownParts]
theorem ownParts_get {n : Nat} {bs : List Board} {l : List Int} {k : Nat} (h : k < n) : (ownParts n bs l)[k]? = some (ownSum k bs l) := by simp [ownParts, h]
theorem ownSum_cons (k : Int) (b : Board) (x : Int) (bs : List Board) (l : List Int) : ownSum k (b :: bs) (x :: l) = ownOf k (b, x) + ownSum k bs l := by
  unfold ownSum; rw [List.zip_cons_cons, List.map_cons, sumI_cons]
theorem ownSum_snoc {k : Int} {bs : List Board} {l : List Int} {i : Nat} {b : Board} {x : Int} (hb : bs[i]? = some b) (hx : l[i]? = some x) : ownSum k (bs.take (i + 1)) (l.take (i + 1)) = ownSum k (bs.take i) (l.take i) + ownOf k (b, x) := by
  unfold ownSum
  have e : ∀ j, (bs.take j).zip (l.take j) = (bs.zip l).take j := fun j => by simp [List.zip, List.take_zipWith]
  rw [e, e, take_snoc (List.getElem?_zip_eq_some.2 ⟨hb, hx⟩ : (bs.zip l)[i]? = some (b, x)), List.map_append, List.map_cons, List.map_nil, sumI_app]
theorem ownParts_zero (n : Nat) : ownParts n [] [] = List.replicate n 0 := by
  show (List.range n).map (fun _ => (0 : Int)) = _
  rw [List.map_const', List.length_range]
theorem ownParts_step {n : Nat} {bs : List Board} {l : List Int} {i w : Nat} {b : Board} {x y : Int} (hb : bs[i]? = some b) (hx : l[i]? = some x) (hw : b.ow = w) (hwn : w < n) (hy : (ownParts n (bs.take i) (l.take i))[w]? = some y) :
    (ownParts n (bs.take i) (l.take i)).set w (y + x) = ownParts n (bs.take (i + 1)) (l.take (i + 1)) := by
  apply List.ext_getElem?
  intro k
  by_cases hk : k < n
  · rw [ownParts_get hk, ownSum_snoc hb hx]
    by_cases e : w = k
    · subst e
      rw [List.getElem?_set_self (by rw [ownParts_len]; exact hk)]
      rw [ownParts_get hk] at hy
      simp at hy
      subst hy
      simp [ownOf, hw]
    · rw [List.getElem?_set_ne e, ownParts_get hk]
      have : (b.ow == (k : Int)) = false := beq_eq_false_iff_ne.2 (by omega)
      simp [ownOf, this]
  · rw [List.getElem?_eq_none (by simp [ownParts_len]; omega), List.getElem?_eq_none (by rw [ownParts_len]; omega)]
theorem ownSum_b {k B : Int} (hB : 0 ≤ B) : ∀ {bs : List Board} {l : List Int}, (∀ x ∈ l, 0 ≤ x ∧ x ≤ B) → 0 ≤ ownSum k bs l ∧ ownSum k bs l ≤ B * l.length
  | [], l, h => by
    have : (0 : Int) ≤ B * l.length := Int.mul_nonneg hB (by omega)
    simpa [ownSum, sumI] using this
  | b :: bs, [], h => by simp [ownSum, sumI]
  | b :: bs, x :: l, h => by
    have h1 := h x List.mem_cons_self
    have h2 := ownSum_b (k := k) hB (bs := bs) (l := l) fun y hy => h y (List.mem_cons_of_mem _ hy)
    rw [ownSum_cons]
    have e : B * ((x :: l).length : Int) = B * l.length + B := by
      rw [List.length_cons, show ((l.length + 1 : Nat) : Int) = (l.length : Int) + 1 by omega, Int.mul_add, Int.mul_one]
    rw [e]
    unfold ownOf
    split <;> omega
theorem sumI_addf {α : Type} (f g : α → Int) : ∀ l : List α, sumI (l.map fun x => f x + g x) = sumI (l.map f) + sumI (l.map g)
  | [] => rfl
  | x :: l => by simp only [List.map_cons, sumI_cons]; rw [sumI_addf f g l]; omega
theorem sumI_pick (x : Int) (w : Nat) : ∀ n : Nat, sumI ((List.range n).map fun (k : Nat) => if (w : Int) == (k : Int) then x else 0) = if w < n then x else 0
  | 0 => rfl
  | n + 1 => by
    rw [List.range_succ, List.map_append, List.map_cons, List.map_nil, sumI_app, sumI_pick x w n]
    by_cases h : w < n
    · have e : ((w : Int) == (n : Int)) = false := beq_eq_false_iff_ne.2 (by omega)
      simp only [h, e, show w < n + 1 by omega, if_true, Bool.false_eq_true, if_false]
      omega
    · by_cases q : w = n
      · subst q; simp
      · have e : ((w : Int) == (n : Int)) = false := beq_eq_false_iff_ne.2 (by omega)
        simp only [h, e, show ¬ w < n + 1 by omega, Bool.false_eq_true, if_false]
        omega
theorem ownParts_sum {n : Nat} : ∀ {bs : List Board} {l : List Int}, l.length = bs.length → (∀ b ∈ bs, 0 ≤ b.ow ∧ b.ow < n) → sumI (ownParts n bs l) = sumI l
  | [], [], _, _ => by
    rw [ownParts_zero]
    have := sumI_bound (B := 0) (l := List.replicate n (0 : Int)) fun x hx => by have := List.eq_of_mem_replicate hx; omega
    simp at this
    have h0 : sumI (List.replicate n (0 : Int)) = 0 := by omega
    rw [h0]; rfl
  | [], _ :: _, h, _ => by simp at h
  | _ :: _, [], h, _ => by simp at h
  | b :: bs, x :: l, h, hb => by
    have h1 := hb b List.mem_cons_self
    have ih := ownParts_sum (n := n) (bs := bs) (l := l) (by simpa using h) fun c hc => hb c (List.mem_cons_of_mem _ hc)
    obtain ⟨w, hw⟩ : ∃ w : Nat, b.ow = w := ⟨b.ow.toNat, by omega⟩
    unfold ownParts at ih ⊢
    have e : (fun (k : Nat) => ownSum (k : Int) (b :: bs) (x :: l)) = fun (k : Nat) => (if (w : Int) == (k : Int) then x else 0) + ownSum k bs l := by
      funext k; rw [ownSum_cons, ownOf, hw]
    rw [e, sumI_addf (fun (k : Nat) => if (w : Int) == (k : Int) then x else 0) (fun (k : Nat) => ownSum (k : Int) bs l), ih, sumI_pick, if_pos (by omega), sumI_cons]
def weights (n : Nat) (t : Tar) (bs : List Board) (hs : List Int) : List Int := if sumI (ownParts n bs (qtys t bs hs)) = 0 then ownParts n bs (List.replicate bs.length 1) else ownParts n bs (qtys t bs hs)
def baseL (P : Int) (W : List Int) : List Int := W.map fun w => P * w / sumI W
def restL (P : Int) (W : List Int) : List Int := W.map fun w => P * w % sumI W
def leftN (P : Int) (W : List Int) : Nat := (P - sumI (baseL P W)).toNat
theorem base_rest (P A : Int) (W : List Int) : A * sumI (W.map fun w => P * w / A) + sumI (W.map fun w => P * w % A) = P * sumI W := by
  induction W with
  | nil => simp [sumI]
  | cons w W ih =>
    simp only [List.map_cons, sumI_cons, Int.mul_add]
    have := Int.emod_add_mul_ediv (P * w) A
    omega
theorem left_bP {P : Int} {W : List Int} (hP : 0 ≤ P) (hW : ∀ w ∈ W, 0 ≤ w) (hA : 1 ≤ sumI W) : 0 ≤ P - sumI (baseL P W) ∧ P - sumI (baseL P W) < W.length := by
  have e := base_rest P (sumI W) W
  have r := sumI_bound (B := sumI W - 1) (l := W.map fun w => P * w % sumI W) fun x hx => by
    rw [List.mem_map] at hx
    obtain ⟨w, _, rfl⟩ := hx
    have := Int.emod_nonneg (P * w) (show sumI W ≠ 0 by omega)
    have := Int.emod_lt_of_pos (P * w) (show 0 < sumI W by omega)
    omega
  rw [List.length_map] at r
  have e1 : sumI W * (P - sumI (baseL P W)) = sumI (W.map fun w => P * w % sumI W) := by
    rw [Int.mul_sub]
    unfold baseL
    rw [Int.mul_comm (sumI W) P]
    omega
  have hl : W ≠ [] := fun h => by rw [h] at hA; simp [sumI] at hA
  have hlen : 1 ≤ (W.length : Int) := by
    cases W with
    | nil => exact absurd rfl hl
    | cons _ _ => simp; omega
  constructor
  · have : 0 * sumI W ≤ (P - sumI (baseL P W)) * sumI W := by rw [Int.zero_mul, Int.mul_comm]; omega
    exact le_of_mul_le this (by omega)
  · have h2 : (sumI W - 1) * (W.length : Int) < W.length * sumI W := by
      rw [Int.sub_mul, Int.mul_comm (W.length : Int)]; omega
    have : (P - sumI (baseL P W)) * sumI W < W.length * sumI W := by rw [Int.mul_comm]; omega
    exact lt_of_mul_lt this (by omega)
def bump (l : List Int) (i : Nat) : List Int := l.set i (l.getD i 0 + 1)
theorem bump_len (l : List Int) (i : Nat) : (bump l i).length = l.length := by simp [bump]
def argmax (r : List Int) (n : Nat) : Nat := (List.range n).foldl (fun best k => if r.getD k 0 > r.getD best 0 then k else best) 0
def takeRef : Nat → List Int → List Int → List Int
  | 0, out, _ => out
  | c + 1, out, r => takeRef c (bump out (argmax r r.length)) (r.set (argmax r r.length) (-1))
def key (L : List (Int × Nat)) (i : Nat) : Int := (L.getD i (0, 0)).1
def swapAt (L : List (Int × Nat)) (j : Nat) : List (Int × Nat) := (L.set (j + 1) (L.getD j (0, 0))).set j (L.getD (j + 1) (0, 0))
def sink : Nat → List (Int × Nat) → List (Int × Nat)
  | 0, L => L
  | j + 1, L => if key L (j + 1) > key L j then sink j (swapAt L j) else L
def sortFrom : Nat → Nat → List (Int × Nat) → List (Int × Nat)
  | 0, _, L => L
  | m + 1, i, L => sortFrom m (i + 1) (sink i L)
def takeProg (c : Nat) (out : List Int) (S : List (Int × Nat)) : List Int := (S.take c).foldl (fun o p => bump o p.2) out
theorem take_three (a b c x y z : Int) (ha : 0 ≤ a) (hb : 0 ≤ b) (hc : 0 ≤ c) (n : Nat) (hn : n < 3) : takeRef n [x, y, z] [a, b, c] = takeProg n [x, y, z] (sortFrom 2 1 [(a, 0), (b, 1), (c, 2)]) := by
  have : n = 0 ∨ n = 1 ∨ n = 2 := by omega
  have a1 : -1 < a := by omega
  have b1 : -1 < b := by omega
  have c1 : -1 < c := by omega
  have a2 : ¬ a < -1 := by omega
  have b2 : ¬ b < -1 := by omega
  have c2 : ¬ c < -1 := by omega
  rcases this with rfl | rfl | rfl
  · rfl
  · by_cases h1 : a < b <;> by_cases h2 : a < c <;> by_cases h3 : b < c <;> first | (exfalso; omega) | simp [takeRef, takeProg, sortFrom, sink, key, swapAt, argmax, bump, List.range_succ, h1, h2, h3, a1, b1, c1, a2, b2, c2]
  · by_cases h1 : a < b <;> by_cases h2 : a < c <;> by_cases h3 : b < c <;> first | (exfalso; omega) | simp [takeRef, takeProg, sortFrom, sink, key, swapAt, argmax, bump, List.range_succ, h1, h2, h3, a1, b1, c1, a2, b2, c2]
theorem take_twoP (a b x y : Int) (ha : 0 ≤ a) (hb : 0 ≤ b) (n : Nat) (hn : n < 2) : takeRef n [x, y] [a, b] = takeProg n [x, y] (sortFrom 1 1 [(a, 0), (b, 1)]) := by
  have : n = 0 ∨ n = 1 := by omega
  rcases this with rfl | rfl
  · rfl
  · by_cases h1 : a < b <;> simp [takeRef, takeProg, sortFrom, sink, key, swapAt, argmax, bump, List.range_succ, h1]
theorem take_one (a x : Int) (n : Nat) (hn : n < 1) : takeRef n [x] [a] = takeProg n [x] (sortFrom 0 1 [(a, 0)]) := by
  have : n = 0 := by omega
  subst this; rfl
theorem take_same {out r : List Int} (hl : out.length = r.length) (h1 : 1 ≤ r.length) (h3 : r.length ≤ 3) (hr : ∀ x ∈ r, 0 ≤ x) {n : Nat} (hn : n < r.length) : takeRef n out r = takeProg n out (sortFrom (r.length - 1) 1 r.zipIdx) := by
  match r, out, hl with
  | [a], [x], _ => exact take_one a x n hn
  | [a, b], [x, y], _ => exact take_twoP a b x y (hr a (by simp)) (hr b (by simp)) n hn
  | [a, b, c], [x, y, z], _ => exact take_three a b c x y z (hr a (by simp)) (hr b (by simp)) (hr c (by simp)) n hn
  | _ :: _ :: _ :: _ :: _, _, _ => simp at h3
  | [], _, _ => simp at h1
def sharesL (P : Int) (W : List Int) : List Int := takeRef (leftN P W) (baseL P W) (restL P W)
end Go.Am
