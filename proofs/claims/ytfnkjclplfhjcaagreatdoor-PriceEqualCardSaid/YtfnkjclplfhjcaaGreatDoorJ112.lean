/- Parts 112, 113 of the abstract machine over this program, joined: what each part says stands at its head. -/
import Derived.Test.YtfnkjclplfhjcaaGreatDoorJ81
set_option linter.unusedSimpArgs false
set_option linter.unusedVariables false
/- The abstract machine, part 112: all lists of hours. -/
namespace Go.Am
open Go Go.Proofs

/- PLAIN -/
def hrs (b : Board) : List Int := (List.range (b.hi - b.lo + 1).toNat).map fun (k : Nat) => b.lo + k
def ext (L : List (List Int)) (b : Board) : List (List Int) := L.flatMap fun p => (hrs b).map fun n => p ++ [n]
def allN : List Board → Nat → List (List Int)
  | _, 0 => [[]]
  | bs, i + 1 => match bs[i]? with
    | some b => ext (allN bs i) b
    | none => allN bs i
theorem allN_succ {bs : List Board} {i : Nat} {b : Board} (h : bs[i]? = some b) : allN bs (i + 1) = ext (allN bs i) b := by
  show (match bs[i]? with | some b => ext (allN bs i) b | none => allN bs i) = _
  rw [h]
theorem mem_hrs {b : Board} {n : Int} : n ∈ hrs b ↔ b.lo ≤ n ∧ n ≤ b.hi := by
  unfold hrs
  rw [List.mem_map]
  constructor
  · rintro ⟨k, hk, rfl⟩
    rw [List.mem_range] at hk
    omega
  · intro h
    exact ⟨(n - b.lo).toNat, by rw [List.mem_range]; omega, by omega⟩
theorem mem_ext {L : List (List Int)} {b : Board} {q : List Int} : q ∈ ext L b ↔ ∃ p ∈ L, ∃ n, (b.lo ≤ n ∧ n ≤ b.hi) ∧ q = p ++ [n] := by
  unfold ext
  simp only [List.mem_flatMap, List.mem_map, mem_hrs]
  constructor
  · rintro ⟨p, hp, n, hn, rfl⟩; exact ⟨p, hp, n, hn, rfl⟩
  · rintro ⟨p, hp, n, hn, rfl⟩; exact ⟨p, hp, n, hn, rfl⟩
theorem allN_mem {bs : List Board} : ∀ {i : Nat}, i ≤ bs.length → ∀ q, q ∈ allN bs i ↔ (q.length = i ∧ ∀ (j : Nat) x b, q[j]? = some x → bs[j]? = some b → b.lo ≤ x ∧ x ≤ b.hi)
  | 0, _, q => by
    show q ∈ [[]] ↔ _
    simp only [List.mem_singleton]
    constructor
    · rintro rfl; exact ⟨rfl, fun j x b h => by simp at h⟩
    · rintro ⟨h, _⟩; exact List.eq_nil_of_length_eq_zero h
  | i + 1, hi, q => by
    obtain ⟨b, hb⟩ : ∃ b, bs[i]? = some b := ⟨_, List.getElem?_eq_getElem (by omega)⟩
    rw [allN_succ hb, mem_ext]
    constructor
    · rintro ⟨p, hp, n, hn, rfl⟩
      obtain ⟨h1, h2⟩ := (allN_mem (by omega) p).1 hp
      refine ⟨by simp [h1], fun j x c hx hc => ?_⟩
      by_cases e : j < p.length
      · rw [List.getElem?_append_left e] at hx; exact h2 j x c hx hc
      · have hj : j = i := by have := (List.getElem?_eq_some_iff.1 hx).1; simp at this; omega
        subst hj
        rw [List.getElem?_append_right (by omega), h1, Nat.sub_self] at hx
        simp at hx
        rw [hb] at hc; simp at hc
        subst hx; subst hc; exact hn
    · rintro ⟨h1, h2⟩
      have hne : q ≠ [] := fun e => by rw [e] at h1; simp at h1
      refine ⟨q.dropLast, (allN_mem (by omega) _).2 ⟨by simp [h1], fun j x c hx hc => ?_⟩, q.getLast hne, ?_, (List.dropLast_concat_getLast hne).symm⟩
      · refine h2 j x c ?_ hc
        have hj := (List.getElem?_eq_some_iff.1 hx).1
        rw [← List.dropLast_concat_getLast hne, List.getElem?_append_left hj]; exact hx
      · refine h2 i _ b ?_ hb
        rw [List.getLast_eq_getElem]
        rw [List.getElem?_eq_getElem (by omega)]
        congr 2
        omega
theorem allN_get {bs : List Board} {i : Nat} (hb : ∀ b ∈ bs, b.lo ≤ b.hi) (hi : i ≤ bs.length) : 1 ≤ (allN bs i).length := by
  have : (bs.map Board.lo).take i ∈ allN bs i := (allN_mem hi _).2 ⟨by simp; omega, fun j x b hx hc => by
    rw [List.getElem?_take] at hx
    split at hx
    · rw [List.getElem?_map, hc] at hx
      simp at hx; subst hx
      exact ⟨Int.le_refl _, hb b (List.mem_of_getElem? hc)⟩
    · simp at hx⟩
  cases h : allN bs i with
  | nil => rw [h] at this; cases this
  | cons _ _ => simp
theorem hrs_len (b : Board) (h : b.hi - b.lo ≤ 6) : (hrs b).length ≤ 7 := by unfold hrs; rw [List.length_map, List.length_range]; omega
theorem ext_len {L : List (List Int)} {b : Board} (h : b.hi - b.lo ≤ 6) : (ext L b).length ≤ L.length * 7 := by
  unfold ext
  induction L with
  | nil => simp
  | cons p L ih =>
    rw [List.flatMap_cons, List.length_append, List.length_map]
    have := hrs_len b h
    simp only [List.length_cons]
    omega
theorem allN_len {bs : List Board} (hb : ∀ b ∈ bs, b.hi - b.lo ≤ 6) : ∀ {i : Nat}, i ≤ bs.length → i ≤ 4 → (allN bs i).length ≤ 7 ^ i
  | 0, _, _ => Nat.le_refl _
  | i + 1, hi, h4 => by
    obtain ⟨b, hc⟩ : ∃ b, bs[i]? = some b := ⟨_, List.getElem?_eq_getElem (by omega)⟩
    rw [allN_succ hc, Nat.pow_succ]
    exact Nat.le_trans (ext_len (hb b (List.mem_of_getElem? hc))) (Nat.mul_le_mul_right _ (allN_len hb (by omega) (by omega)))

/- LISTS OF LISTS -/
/-- values that are lists -/
def Rows (h : Heap) (us : List Value) (Y : List (List Int)) : Prop := us.length = Y.length ∧ ∀ (k : Nat) x, Y[k]? = some x → ∃ u, us[k]? = some u ∧ LS h u x ints 1
def unit (v : Value) : List Value := [v]
theorem unit_len (v : Value) : (unit v).length = 1 := rfl
theorem flat_unit (us : List Value) : us.flatMap unit = us := by
  induction us with
  | nil => rfl
  | cons u us ih => rw [List.flatMap_cons, ih]; rfl
theorem Rows.fr {h h' : Heap} {us : List Value} {Y : List (List Int)} (q : Rows h us Y) (hk : HOK h) (f : Fr h h') : Rows h' us Y :=
  ⟨q.1, fun k x hx => by obtain ⟨u, e, l⟩ := q.2 k x hx; exact ⟨u, e, l.fr hk f⟩⟩
theorem Rows.slice {h : Heap} {us : List Value} {Y : List (List Int)} (q : Rows h us Y) {k : Nat} {u : Value} (hu : us[k]? = some u) : ∃ p n c, u = .slice p n c := by
  have hk := (List.getElem?_eq_some_iff.1 hu).1
  obtain ⟨x, hx⟩ : ∃ x, Y[k]? = some x := ⟨_, List.getElem?_eq_getElem (by rw [← q.1]; exact hk)⟩
  obtain ⟨u', e, l⟩ := q.2 k x hx
  rw [hu] at e; simp at e; subst e
  obtain ⟨p, c, rfl⟩ := l.len
  exact ⟨p, _, c, rfl⟩
/-- a list stays, if a row of lists alone changes -/
theorem LS.stay {h h' : Heap} {b : Nat} {us : List Value} {Y : List (List Int)} (q : Rows h us Y) (hb : rowAt h b = some us) (hg : ∀ j, j ≠ b → h'.get j = h.get j ∨ rowAt h j = none) {u : Value} {x : List Int} (l : LS h u x ints 1) : LS h' u x ints 1 := by
  rcases l with l | ⟨bb, o, sp, c, row, rfl, h1, h2⟩
  · exact .inl l
  · cases x with
    | nil => exact .inl ⟨rfl, _, _, rfl⟩
    | cons y x =>
      refine .inr ⟨bb, o, sp, c, row, rfl, ?_, h2⟩
      by_cases e : bb = b
      · subst e
        rw [hb] at h1
        simp at h1; subst h1
        have := (h2 0 y rfl).2 0 (by omega)
        simp [ints] at this
        obtain ⟨p, n, c', e⟩ := q.slice this
        simp at e
      · rcases hg bb e with e1 | e1
        · unfold rowAt; rw [e1]; exact h1
        · rw [h1] at e1; simp at e1
theorem append_none {h : Heap} {p : Option Addr} {c : Nat} : aAppend CC [22, 22] (.slice none 0 0) (.slice p 0 c) h = some (.slice none 0 0, h) := by
  obtain ⟨e, i, du, e1, e2, e3, e4, e5, e6, e7⟩ := app_22.ex
  have ez : zeroFits i.size (CC.zero e) = true := e7
  simp only [aAppend, e1, e2, e5, obind_some, sliceElem, e6, ez, Bool.and_self, guardB_true, sliceOf, lenOfV, appendAt, nilOk]
  rfl
end Go.Am

/- The abstract machine, part 113: contracts: All. -/
namespace Go.Am
open Go Go.Proofs

theorem zip_app (L : List (List Int)) (b : Board) (k : Nat) (p : List Int) (h : L[k]? = some p) : ext (L.take (k + 1)) b = ext (L.take k) b ++ (hrs b).map fun n => p ++ [n] := by
  unfold ext; rw [take_snoc h, List.flatMap_append]; simp

set_option maxRecDepth 10000 in
set_option maxHeartbeats 8000000 in
theorem all_42 {h : Heap} (hk : HOK h) (hp : 0 < h.next) {a b c : Value} {s : Sheet} (hs : IsSheet h a b c s) (ok : s.ok = true) :
    CW CC 42 [.agg ⟨[a, b, c]⟩] h fun r h' => (∃ us, LS h' r us unit 1 ∧ Rows h' us (allN s.boards s.boards.length)) ∧ Fr h h' := by
  have hlen := Sheet.ok_len ok
  have hbs : ∀ b ∈ s.boards, 0 ≤ b.lo ∧ b.lo ≤ b.hi ∧ b.hi ≤ 40 ∧ b.hi - b.lo ≤ 6 := fun b hb => by
    have := of_decide_eq_true (Sheet.ok_boards ok b hb); omega
  have hcount : ∀ i, i ≤ s.boards.length → (allN s.boards i).length ≤ 2401 := fun i hi => by
    have h1 := allN_len (bs := s.boards) (fun b hb => (hbs b hb).2.2.2) hi (by omega)
    have h2 : 7 ^ i ≤ 7 ^ 4 := Nat.pow_le_pow_right (by omega) (by omega)
    omega
  obtain ⟨p1, c1, rfl, _⟩ := hs.offs.open
  obtain ⟨p2, c2, rfl, x2⟩ := hs.boards.open
  obtain ⟨p3, c3, rfl, _⟩ := hs.tars.open
  refine CW_in Tryz.f42 (by kernel_rfl) (by kernel_rfl) rfl rfl ?_
  simp only [Tryz.f42]
  have f1 : Fr h ((h.alloc (.row [.slice p1 s.offs.length c1, .slice p2 s.boards.length c2, .slice p3 s.tars.length c3] 0 true)).alloc (.row [.slice none 0 0] 1 true)) := ((Fr.refl hk).alloc _).alloc _
  have r1 : rowAt ((h.alloc (.row [.slice p1 s.offs.length c1, .slice p2 s.boards.length c2, .slice p3 s.tars.length c3] 0 true)).alloc (.row [.slice none 0 0] 1 true)) h.next = some [.slice p1 s.offs.length c1, .slice p2 s.boards.length c2, .slice p3 s.tars.length c3] := by rw [rowAt_old _ (by simp), rowAt_new]
  have o1 : rowAt ((h.alloc (.row [.slice p1 s.offs.length c1, .slice p2 s.boards.length c2, .slice p3 s.tars.length c3] 0 true)).alloc (.row [.slice none 0 0] 1 true)) (h.next + 1) = some [.slice none 0 0] := rowAt_at _ _ _ (by simp)
  have n1 : ((h.alloc (.row [.slice p1 s.offs.length c1, .slice p2 s.boards.length c2, .slice p3 s.tars.length c3] 0 true)).alloc (.row [.slice none 0 0] 1 true)).next = h.next + 2 := by simp
  simp (maxDischargeDepth := 30) only [AMS, AMH, ↓reduceIte, Nat.reduceLT, Nat.reduceEqDiff, Nat.reduceAdd, Nat.reduceMul, reduceCtorEq, decide_true, decide_false, Nat.reduceLeDiff, Int.reduceNe, Int.reduceEq, ne_eq, not_false_eq_true, and_self, bs_22, bs_54, fp_26_1, fp_30_0, fp_30_1, fp_72_2, ix_22, ix_23, ix_54, ld_22, ld_23, ld_3, len_23, len_54, part_22, part_3, part_72, size_22, size_23, size_3, size_54, size_72, und_22, und_23, und_54, zero_22, zero_23, zero_54, hk, bs_54 (cells_slice _ _ _)]
  generalize ((h.alloc (.row [.slice p1 s.offs.length c1, .slice p2 s.boards.length c2, .slice p3 s.tars.length c3] 0 true)).alloc (.row [.slice none 0 0] 1 true)) = h1 at f1 r1 o1 n1 ⊢
  have L1 : LS h1 (.slice (some ⟨h.next + 1, 0, some 1⟩) 1 1) [.slice none 0 0] unit 1 := LS.of_row (xs := [Value.slice none 0 0]) unit_len o1
  have R1 : Rows h1 [.slice none 0 0] (allN s.boards 0) := ⟨rfl, fun k x hx => by
    match k with
    | 0 => simp [allN] at hx; subst hx; exact ⟨_, rfl, .inl ⟨rfl, none, 0, rfl⟩⟩
    | k + 1 => simp [allN] at hx⟩
  refine W_loop s.boards.length (fun m' f h' => ∃ i us, i ≤ s.boards.length ∧ m' = s.boards.length - i ∧ f 1 = .pointer (some ⟨h.next, 0, none⟩) ∧ f 4 = .int .i64 i ∧ LS h' (f 3) us unit 1 ∧ Rows h' us (allN s.boards i) ∧ Fr h h' ∧ 0 < h'.next ∧ rowAt h' h.next = some [.slice p1 s.offs.length c1, .slice p2 s.boards.length c2, .slice p3 s.tars.length c3])
    ⟨0, _, by omega, by omega, by simp [upd_at], by simp [upd_at], by simpa [upd_at] using L1, R1, f1, by omega, r1⟩ ?_
  clear f1 r1 o1 n1 L1 R1
  rintro m' f h0 ⟨i, us, hi, rfl, g1, g4, L3, R3, fr0, n0, r0⟩ ih
  have k0 := fr0.ok
  by_cases hil : i < s.boards.length
  · obtain ⟨B, gB⟩ : ∃ x, s.boards[i]? = some x := ⟨_, List.getElem?_eq_getElem hil⟩
    have bb := hbs B (List.mem_of_getElem? gB)
    rcases x2 with hx | ⟨b2, o2, sp2, row2, rfl, rr2, x2⟩
    · rw [hx] at hil; simp at hil
    have kb2 : row2[o2 + i * 5 + 2]? = some (.int .i64 B.lo) := (x2 _ _ gB).2 2 (by omega)
    have kb3 : row2[o2 + i * 5 + 2 + 1]? = some (.int .i64 B.hi) := (x2 _ _ gB).2 3 (by omega)
    obtain ⟨pv, cv, e3, x3'⟩ := L3.open
    rw [R3.1] at e3
    have cnt := hcount i hi
    have cnt1 := hcount (i + 1) hil
    have hsucc := allN_succ gB
    simp (maxDischargeDepth := 30) only [AMS, AMH, ↓reduceIte, Nat.reduceLT, Nat.reduceEqDiff, Nat.reduceAdd, Nat.reduceMul, reduceCtorEq, decide_true, decide_false, Nat.reduceLeDiff, Int.reduceNe, Int.reduceEq, ne_eq, not_false_eq_true, and_self, bs_22, bs_54, fp_26_1, fp_30_0, fp_30_1, fp_72_2, ix_22, ix_23, ix_54, ld_22, ld_23, ld_3, len_23, len_54, part_22, part_3, part_72, size_22, size_23, size_3, size_54, size_72, und_22, und_23, und_54, zero_22, zero_23, zero_54, k0, g1, g4, r0, lt_t hil]
    generalize hL : allN s.boards i = L at *
    refine W_loop L.length (fun m' f h' => ∃ k ws, k ≤ L.length ∧ m' = L.length - k ∧ f 1 = .pointer (some ⟨h.next, 0, none⟩) ∧ f 3 = .slice pv L.length cv ∧ f 4 = .int .i64 i ∧ f 6 = .int .i64 (k : Nat) ∧ SL h0.next h' (f 5) ws 1 (ext (L.take k) B).length ∧ Rows h' ws (ext (L.take k) B) ∧ Fr h0 h')
      ⟨0, [], by omega, by omega, by simp [upd_at, g1], by simp [upd_at, e3], by simp [upd_at, g4], by simp [upd_at], by simpa [upd_at, ext] using SL.nil h0.next h0 1, ⟨by simp [ext], fun k x hx => by simp [ext] at hx⟩, Fr.refl k0⟩ ?_
    clear g1 g4
    rintro m' f h' ⟨k, ws, hk', rfl, g1, g3, g4, g6, q5, RW, fr⟩ ih2
    have k' := fr.ok
    have fh := fr0.trans fr
    have r' := fr.row' k0 r0
    by_cases hkl : k < L.length
    · obtain ⟨p, gp⟩ : ∃ x, L[k]? = some x := ⟨_, List.getElem?_eq_getElem hkl⟩
      obtain ⟨u, gu, lu⟩ := R3.2 k p gp
      have rr2' := fh.row' hk rr2
      have hpl : p.length ≤ 4 := by
        have := ((allN_mem (bs := s.boards) hi p).1 (by rw [hL]; exact List.mem_of_getElem? gp)).1
        omega
      rcases x3' with hx | ⟨b3, o3, sp3, row3, rfl, rr3, x3'⟩
      · have := R3.1; rw [hx] at this; simp at this; omega
      have e3' : row3[o3 + k]? = some u := by simpa [unit] using (x3' _ _ gu).2 0 (by omega)
      have hstep := zip_app L B k p gp
      have hle : (ext (L.take (k + 1)) B).length ≤ 2401 := by
        have h1 := ext_len (L := L.take (k + 1)) (b := B) bb.2.2.2
        have h2 : ext (L.take (k + 1)) B ++ ext (L.drop (k + 1)) B = ext L B := by unfold ext; rw [← List.flatMap_append, List.take_append_drop]
        have h3 := congrArg List.length h2
        rw [List.length_append, ← hsucc] at h3
        omega
      simp (maxDischargeDepth := 30) only [AMS, AMH, ↓reduceIte, Nat.reduceLT, Nat.reduceEqDiff, Nat.reduceAdd, Nat.reduceMul, reduceCtorEq, decide_true, decide_false, Nat.reduceLeDiff, Int.reduceNe, Int.reduceEq, ne_eq, not_false_eq_true, and_self, bs_22, bs_54, fp_26_1, fp_30_0, fp_30_1, fp_72_2, ix_22, ix_23, ix_54, ld_22, ld_23, ld_3, len_23, len_54, part_22, part_3, part_72, size_22, size_23, size_3, size_54, size_72, und_22, und_23, und_54, zero_22, zero_23, zero_54, k', g1, g3, g4, g6, r', lt_t hkl, hil, rr2', kb2]
      generalize hY : ext (L.take k) B = Y at *
      generalize hlen' : (B.hi - B.lo + 1).toNat = len
      refine W_loop len (fun m' f h' => ∃ m ws, m ≤ len ∧ m' = len - m ∧ f 1 = .pointer (some ⟨h.next, 0, none⟩) ∧ f 3 = .slice (some ⟨b3, o3, sp3⟩) L.length cv ∧ f 4 = .int .i64 i ∧ f 6 = .int .i64 (k : Nat) ∧ f 7 = .int .i64 (B.lo + m) ∧
          SL h0.next h' (f 5) ws 1 (Y ++ ((hrs B).take m).map fun n => p ++ [n]).length ∧ Rows h' ws (Y ++ ((hrs B).take m).map fun n => p ++ [n]) ∧ Fr h0 h')
        ⟨0, ws, by omega, by omega, by simp [upd_at, g1], by simp [upd_at, g3], by simp [upd_at, g4], by simp [upd_at, g6], by simp [upd_at], by simpa [upd_at] using q5, by simpa using RW, fr⟩ ?_
      clear g1 g3 g4 g6 q5 RW fr k' fh r' rr2'
      rintro m' f h' ⟨m, ws, hm, rfl, g1, g3, g4, g6, g7, q5, RW, fr⟩ ih3
      have g5 : f 5 = f 5 := rfl
      have k' := fr.ok
      have fh := fr0.trans fr
      have r' := fr.row' k0 r0
      have rr2' := fh.row' hk rr2
      have rr3' := fr.row' k0 rr3
      have nn := fr.next
      have hl7 : (hrs B).length = len := by unfold hrs; rw [List.length_map, List.length_range, hlen']
      by_cases hml : m < len
      · have ltm : decide (B.lo + (m : Int) ≤ B.hi) = true := decide_eq_true (by omega)
        have wm : IntKind.i64.wrap (B.lo + (m : Int) + 1) = B.lo + ((m + 1 : Nat) : Int) := by rw [wrap64 (by omega) (by omega)]; omega
        have gm : (hrs B)[m]? = some (B.lo + m) := by
          unfold hrs; rw [List.getElem?_map, List.getElem?_range (by omega)]; rfl
        have hsmall : (Y ++ ((hrs B).take m).map fun n => p ++ [n]).length + 1 ≤ 4294967296 := by
          rw [List.length_append, List.length_map, List.length_take]
          rw [hstep, List.length_append, List.length_map] at hle
          omega
        have lu' := lu.fr k0 fr
        by_cases hpl0 : p.length = 0
        · obtain ⟨pu, cu, rfl⟩ := lu'.len
          have fc : Fr h' h' := Fr.refl k'
          have hpn := List.eq_nil_of_length_eq_zero hpl0
          have qc : SL h'.next h' (.slice none 0 0) (p.flatMap ints) 1 p.length := by rw [hpn]; exact SL.nil _ _ _
          have en : aAppend CC [22, 22] (.slice none 0 0) (.slice pu p.length cu) h' = some (.slice none 0 0, h') := by rw [hpl0]; exact append_none
          obtain ⟨hA, eA, qA, fA, nA, gA⟩ := append_one (ts := []) app_22 fc (by omega) qc (v := .int .i64 (B.lo + m)) rfl (by omega)
          have fH : Fr h0 hA := fr.trans fA
          have qT := q5.fr k' fA
          obtain ⟨hB, eB', qB, fB, nB, gB'⟩ := append_one (ts := []) app_54 fH (by omega) qT (v := .slice (some ⟨h'.next + 1, 0, some 1⟩) (p.length + 1) (p.length + 1)) rfl (by omega)
          simp (maxDischargeDepth := 30) only [AMS, AMH, ↓reduceIte, Nat.reduceLT, Nat.reduceEqDiff, Nat.reduceAdd, Nat.reduceMul, reduceCtorEq, decide_true, decide_false, Nat.reduceLeDiff, Int.reduceNe, Int.reduceEq, ne_eq, not_false_eq_true, and_self, bs_22, bs_54, fp_26_1, fp_30_0, fp_30_1, fp_72_2, ix_22, ix_23, ix_54, ld_22, ld_23, ld_3, len_23, len_54, part_22, part_3, part_72, size_22, size_23, size_3, size_54, size_72, und_22, und_23, und_54, zero_22, zero_23, zero_54, k', g1, g3, g4, g5, g6, g7, ltm, r', hil, rr2', kb2, kb3, hkl, Nat.mul_one, rr3', e3', en, fc.ok, bs_22 (cells_int _ _), eA, fH.ok, bs_54 (cells_slice _ _ _), eB', wm]
          refine ih3 (len - (m + 1)) _ _ (by omega) ?_
          have tot : (Y ++ ((hrs B).take (m + 1)).map fun n => p ++ [n]) = (Y ++ ((hrs B).take m).map fun n => p ++ [n]) ++ [p ++ [B.lo + m]] := by
            rw [take_snoc gm, List.map_append, List.append_assoc]; rfl
          refine ⟨m + 1, ws ++ [.slice (some ⟨h'.next + 1, 0, some 1⟩) (p.length + 1) (p.length + 1)], by omega, rfl, by simp [upd_at, g1], by simp [upd_at, g3], by simp [upd_at, g4], by simp [upd_at, g6], by simp [upd_at], ?_, ?_, fB⟩
          · rw [tot, List.length_append]
            simpa [upd_at, Nat.add_assoc] using qB
          · rw [tot]
            have LQ : LS hA (.slice (some ⟨h'.next + 1, 0, some 1⟩) (p.length + 1) (p.length + 1)) (p ++ [B.lo + m]) ints 1 := by
              have := SL.ls (xs := p ++ [B.lo + m]) (f := ints) ints_len (N := h'.next) (h := hA) (v := .slice (some ⟨h'.next + 1, 0, some 1⟩) (p.length + 1) (p.length + 1)) (by
                rw [List.flatMap_append, List.length_append]
                simpa [ints] using qA)
              exact this
            have RA := RW.fr k' fA
            refine ⟨by rw [List.length_append, List.length_append, RW.1]; simp, fun kk x hx => ?_⟩
            by_cases e : kk < ws.length
            · rw [List.getElem?_append_left (by rw [← RW.1]; exact e)] at hx
              obtain ⟨uu, hu, lu⟩ := RA.2 kk x hx
              refine ⟨uu, by rw [List.getElem?_append_left e]; exact hu, ?_⟩
              rcases qT with ⟨_, hw0, _⟩ | ⟨bo, ebo, _, _, ogo, _⟩
              · rw [hw0] at e; simp at e
              · have rbo : rowAt (hA.alloc (.row [.slice (some ⟨h'.next + 1, 0, some 1⟩) (p.length + 1) (p.length + 1)] 1 true)) bo = some ws := by
                  have := get_lt fH.ok ogo
                  rw [rowAt_old _ this]; unfold rowAt; rw [ogo]; rfl
                have fa2 : Fr hA (hA.alloc (.row [.slice (some ⟨h'.next + 1, 0, some 1⟩) (p.length + 1) (p.length + 1)] 1 true)) := (Fr.refl fH.ok).alloc _
                have RA2 := RA.fr fH.ok fa2
                have rbA : rowAt hA bo = some ws := by unfold rowAt; rw [ogo]; rfl
                refine LS.stay RA rbA (fun jj hj => ?_) lu
                by_cases hlt : jj < hA.next
                · exact .inl (gB' jj hlt (fun hc => hj (by rw [ebo] at hc; simp [blkOf] at hc; exact hc.symm)))
                · refine .inr ?_
                  unfold rowAt; rw [fH.ok jj (by omega)]; rfl
            · have hkk : kk = ws.length := by
                have := (List.getElem?_eq_some_iff.1 hx).1
                rw [List.length_append, ← RW.1] at this
                simp at this; omega
              subst hkk
              rw [RW.1, List.getElem?_append_right (Nat.le_refl _), Nat.sub_self] at hx
              simp at hx
              subst hx
              refine ⟨_, by rw [List.getElem?_append_right (Nat.le_refl _), Nat.sub_self]; rfl, ?_⟩
              rcases LQ with LQ | ⟨b9, o9, sp9, c9, row9, e9, r9, x9⟩
              · exact .inl LQ
              · simp at e9
                obtain ⟨⟨rfl, rfl, rfl⟩, _, rfl⟩ := e9
                refine .inr ⟨_, _, _, _, row9, by rw [List.length_append]; rfl, ?_, x9⟩
                unfold rowAt
                rw [gB' _ (by omega) (fun hc => by have := (qT.blk_lt fH.ok hc); have := (q5.blk_lt k' hc).2; omega)]
                exact r9
        · have hpn : 1 ≤ p.length := by omega
          obtain ⟨hC, eC, gC, _, fc, nC⟩ := copy_at (ts := []) app_22 (Fr.refl k') (by omega) ints_len (ints_one p) lu' hpn (by omega)
          have qc : SL h'.next hC (.slice (some ⟨h'.next, 0, some 1⟩) p.length p.length) (p.flatMap ints) 1 p.length := .inr ⟨h'.next, rfl, by omega, Nat.le_refl _, gC, flat_len ints_len _⟩
          obtain ⟨hA, eA, qA, fA, nA, gA⟩ := append_one (ts := []) app_22 fc (by omega) qc (v := .int .i64 (B.lo + m)) rfl (by omega)
          have fH : Fr h0 hA := fr.trans fA
          have qT := q5.fr k' fA
          obtain ⟨hB, eB', qB, fB, nB, gB'⟩ := append_one (ts := []) app_54 fH (by omega) qT (v := .slice (some ⟨hC.next + 1, 0, some 1⟩) (p.length + 1) (p.length + 1)) rfl (by omega)
          simp (maxDischargeDepth := 30) only [AMS, AMH, ↓reduceIte, Nat.reduceLT, Nat.reduceEqDiff, Nat.reduceAdd, Nat.reduceMul, reduceCtorEq, decide_true, decide_false, Nat.reduceLeDiff, Int.reduceNe, Int.reduceEq, ne_eq, not_false_eq_true, and_self, bs_22, bs_54, fp_26_1, fp_30_0, fp_30_1, fp_72_2, ix_22, ix_23, ix_54, ld_22, ld_23, ld_3, len_23, len_54, part_22, part_3, part_72, size_22, size_23, size_3, size_54, size_72, und_22, und_23, und_54, zero_22, zero_23, zero_54, k', g1, g3, g4, g5, g6, g7, ltm, r', hil, rr2', kb2, kb3, hkl, Nat.mul_one, rr3', e3', eC, fc.ok, bs_22 (cells_int _ _), eA, fH.ok, bs_54 (cells_slice _ _ _), eB', wm]
          refine ih3 (len - (m + 1)) _ _ (by omega) ?_
          have tot : (Y ++ ((hrs B).take (m + 1)).map fun n => p ++ [n]) = (Y ++ ((hrs B).take m).map fun n => p ++ [n]) ++ [p ++ [B.lo + m]] := by
            rw [take_snoc gm, List.map_append, List.append_assoc]; rfl
          refine ⟨m + 1, ws ++ [.slice (some ⟨hC.next + 1, 0, some 1⟩) (p.length + 1) (p.length + 1)], by omega, rfl, by simp [upd_at, g1], by simp [upd_at, g3], by simp [upd_at, g4], by simp [upd_at, g6], by simp [upd_at], ?_, ?_, fB⟩
          · rw [tot, List.length_append]
            simpa [upd_at, Nat.add_assoc] using qB
          · rw [tot]
            have LQ : LS hA (.slice (some ⟨hC.next + 1, 0, some 1⟩) (p.length + 1) (p.length + 1)) (p ++ [B.lo + m]) ints 1 := by
              have := SL.ls (xs := p ++ [B.lo + m]) (f := ints) ints_len (N := h'.next) (h := hA) (v := .slice (some ⟨hC.next + 1, 0, some 1⟩) (p.length + 1) (p.length + 1)) (by
                rw [List.flatMap_append, List.length_append]
                simpa [ints] using qA)
              exact this
            have RA := RW.fr k' fA
            refine ⟨by rw [List.length_append, List.length_append, RW.1]; simp, fun kk x hx => ?_⟩
            by_cases e : kk < ws.length
            · rw [List.getElem?_append_left (by rw [← RW.1]; exact e)] at hx
              obtain ⟨uu, hu, lu⟩ := RA.2 kk x hx
              refine ⟨uu, by rw [List.getElem?_append_left e]; exact hu, ?_⟩
              rcases qT with ⟨_, hw0, _⟩ | ⟨bo, ebo, _, _, ogo, _⟩
              · rw [hw0] at e; simp at e
              · have rbo : rowAt (hA.alloc (.row [.slice (some ⟨hC.next + 1, 0, some 1⟩) (p.length + 1) (p.length + 1)] 1 true)) bo = some ws := by
                  have := get_lt fH.ok ogo
                  rw [rowAt_old _ this]; unfold rowAt; rw [ogo]; rfl
                have fa2 : Fr hA (hA.alloc (.row [.slice (some ⟨hC.next + 1, 0, some 1⟩) (p.length + 1) (p.length + 1)] 1 true)) := (Fr.refl fH.ok).alloc _
                have RA2 := RA.fr fH.ok fa2
                have rbA : rowAt hA bo = some ws := by unfold rowAt; rw [ogo]; rfl
                refine LS.stay RA rbA (fun jj hj => ?_) lu
                by_cases hlt : jj < hA.next
                · exact .inl (gB' jj hlt (fun hc => hj (by rw [ebo] at hc; simp [blkOf] at hc; exact hc.symm)))
                · refine .inr ?_
                  unfold rowAt; rw [fH.ok jj (by omega)]; rfl
            · have hkk : kk = ws.length := by
                have := (List.getElem?_eq_some_iff.1 hx).1
                rw [List.length_append, ← RW.1] at this
                simp at this; omega
              subst hkk
              rw [RW.1, List.getElem?_append_right (Nat.le_refl _), Nat.sub_self] at hx
              simp at hx
              subst hx
              refine ⟨_, by rw [List.getElem?_append_right (Nat.le_refl _), Nat.sub_self]; rfl, ?_⟩
              rcases LQ with LQ | ⟨b9, o9, sp9, c9, row9, e9, r9, x9⟩
              · exact .inl LQ
              · simp at e9
                obtain ⟨⟨rfl, rfl, rfl⟩, _, rfl⟩ := e9
                refine .inr ⟨_, _, _, _, row9, by rw [List.length_append]; rfl, ?_, x9⟩
                unfold rowAt
                rw [gB' _ (by omega) (fun hc => by have := (qT.blk_lt fH.ok hc); have := (q5.blk_lt k' hc).2; omega)]
                exact r9
      · have hmE : m = len := by omega
        subst hmE
        have ltm : decide (B.lo + (m : Int) ≤ B.hi) = false := decide_eq_false (by omega)
        have wk : IntKind.i64.wrap ((k : Int) + 1) = ((k + 1 : Nat) : Int) := by rw [wrap64 (by omega) (by omega)]; omega
        rw [← hl7, List.take_length, ← hstep] at q5 RW
        simp (maxDischargeDepth := 30) only [AMS, AMH, ↓reduceIte, Nat.reduceLT, Nat.reduceEqDiff, Nat.reduceAdd, Nat.reduceMul, reduceCtorEq, decide_true, decide_false, Nat.reduceLeDiff, Int.reduceNe, Int.reduceEq, ne_eq, not_false_eq_true, and_self, bs_22, bs_54, fp_26_1, fp_30_0, fp_30_1, fp_72_2, ix_22, ix_23, ix_54, ld_22, ld_23, ld_3, len_23, len_54, part_22, part_3, part_72, size_22, size_23, size_3, size_54, size_72, und_22, und_23, und_54, zero_22, zero_23, zero_54, k', g1, g3, g4, g6, g7, r', ltm, hil, rr2', kb2, kb3, wk]
        refine ih2 (L.length - (k + 1)) _ _ (by omega) ?_
        exact ⟨k + 1, ws, by omega, rfl, by simp [upd_at, g1], by simp [upd_at, g3], by simp [upd_at, g4], by simp [upd_at], by simpa [upd_at] using q5, RW, fr⟩
    · have hkE : k = L.length := by omega
      subst hkE
      rw [List.take_length, ← hsucc] at q5 RW
      simp (maxDischargeDepth := 30) only [AMS, AMH, ↓reduceIte, Nat.reduceLT, Nat.reduceEqDiff, Nat.reduceAdd, Nat.reduceMul, reduceCtorEq, decide_true, decide_false, Nat.reduceLeDiff, Int.reduceNe, Int.reduceEq, ne_eq, not_false_eq_true, and_self, bs_22, bs_54, fp_26_1, fp_30_0, fp_30_1, fp_72_2, ix_22, ix_23, ix_54, ld_22, ld_23, ld_3, len_23, len_54, part_22, part_3, part_72, size_22, size_23, size_3, size_54, size_72, und_22, und_23, und_54, zero_22, zero_23, zero_54, k', g1, g3, g4, g6, lt_f, i_next hil (by omega : s.boards.length ≤ 1000)]
      refine ih (s.boards.length - (i + 1)) _ _ (by omega) ?_
      refine ⟨i + 1, ws, by omega, rfl, by simp [upd_at, g1], by simp [upd_at], ?_, RW, fh, by have := fr.next; omega, r'⟩
      have : SL h0.next h' (f 5) (ws.flatMap unit) 1 ws.length := by rw [flat_unit, RW.1]; exact q5
      simpa [upd_at] using SL.ls unit_len this
  · have hiE : i = s.boards.length := by omega
    subst hiE
    simp (maxDischargeDepth := 30) only [AMS, AMH, ↓reduceIte, Nat.reduceLT, Nat.reduceEqDiff, Nat.reduceAdd, Nat.reduceMul, reduceCtorEq, decide_true, decide_false, Nat.reduceLeDiff, Int.reduceNe, Int.reduceEq, ne_eq, not_false_eq_true, and_self, bs_22, bs_54, fp_26_1, fp_30_0, fp_30_1, fp_72_2, ix_22, ix_23, ix_54, ld_22, ld_23, ld_3, len_23, len_54, part_22, part_3, part_72, size_22, size_23, size_3, size_54, size_72, und_22, und_23, und_54, zero_22, zero_23, zero_54, k0, g1, g4, r0, lt_f]
    exact ⟨⟨us, L3, R3⟩, fr0⟩
end Go.Am
