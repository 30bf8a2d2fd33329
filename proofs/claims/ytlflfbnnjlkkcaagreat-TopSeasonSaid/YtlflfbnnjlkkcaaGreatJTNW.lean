/- Hours that are noted: the whole function does what its specification says. -/
import Derived.Test.YtlflfbnnjlkkcaaGreatJK1
set_option linter.unusedSimpArgs false
set_option linter.unusedVariables false
set_option linter.defProp false
namespace Go.Am.NB
open Go Go.Proofs
def F352_TNW := A2 @fp_257_0 <| A2 @fp_257_4 <| A2 @fp_257_6 <| A2 @fp_25_0 <| A2 @fp_25_1 <| A2 @fp_278_0 <| A2 @fp_278_1 <| A2 @fp_38_2 <| A2 @fp_47_1 <| A2 @fp_49_3 <| A2 @fp_49_6 <| A2 @fp_89_2 <| A2 @fp_96_0 <| A2 @ix_22 <| A2 @ix_36 <| A2 @ix_44 <| A2 @ld_22 <| A2 @ld_25 <| A2 @ld_255 <| A2 @ld_3 <| A2 @ld_36 <| A2 @ld_44 <| A2 @len_22 <| A2 @part_3 <| A2 @part_89 <| A2 @part_96 <| A2 @size_22 <| A2 @size_25 <| A2 @size_3 <| A2 @size_36 <| A2 @size_44 <| A2 @size_89 <| A2 @size_96 <| A2 @und_22 <| A2 @und_36 <| A2 @und_44 <| A2 @zero_22 <| A2 @zero_25 <| A2 @zero_36 @zero_44
theorem map_at {h : Heap} {v : Value} {m : Nat × List MapEntry × Nat} (hm : mapAt h v = some m) : v = .map (some m.1) ∧ h.get m.1 = some (.map m.2.1 m.2.2) := by
  unfold mapAt at hm
  split at hm
  · rename_i r
    obtain ⟨q, hq, h2⟩ := obind_eq hm
    obtain ⟨o, ho, h3⟩ := obind_eq hq
    simp at h2; subst h2
    cases o <;> simp [mapOf] at h3
    obtain ⟨rfl⟩ := h3
    exact ⟨rfl, ho⟩
  · simp at hm
theorem stamps_of : ∀ {es : List MapEntry} {c : Nat}, stampsOK es c = true → (∀ e ∈ es, e.born < c) ∧ (es.map (·.born)).Nodup
  | [], _, _ => ⟨fun e he => by simp at he, List.nodup_nil⟩
  | e :: es, c, h => by
    obtain ⟨h1, h2⟩ := (Bool.and_eq_true _ _).mp (show (Nat.ble (e.born + 1) c && (!(es.any fun x => Nat.beq x.born e.born) && stampsOK es c)) = true from h)
    obtain ⟨h3, h4⟩ := (Bool.and_eq_true _ _).mp h2
    obtain ⟨a, b⟩ := stamps_of h4
    refine ⟨fun x hx => ?_, ?_⟩
    · rcases List.mem_cons.1 hx with rfl | hx
      · exact Nat.le_of_ble_eq_true h1
      · exact a x hx
    · rw [List.map_cons, List.nodup_cons]
      refine ⟨fun hm => ?_, b⟩
      obtain ⟨x, hx, hb⟩ := List.mem_map.1 hm
      have : es.any (fun x => Nat.beq x.born e.born) = true := List.any_eq_true.2 ⟨x, hx, by rw [hb]; exact Nat.beq_refl _⟩
      rw [this] at h3; simp at h3
noncomputable def zOf (h : Heap) (vs : Value) (e : MapEntry) : Int := match obind (obind (i64Of e.key) natOfI) fun k => numAt h 5 k 0 vs with
  | some z => z
  | none => 0
theorem none_on {h : Heap} {b : Int} {vs : Value} : ∀ {es : List MapEntry} {ok : Bool}, noneOn h b vs es = some ok → (∀ e ∈ es, ∃ (k : Nat) (z : Int), e.key = .int .i64 (k : Int) ∧ numAt h 5 k 0 vs = some z) ∧ (ok = true ↔ ∀ e ∈ es, zOf h vs e ≠ b)
  | [], ok, h => by
    have : ok = true := by simpa [noneOn, lrec_nil] using h.symm
    exact ⟨fun e he => by simp at he, ⟨fun _ e he => by simp at he, fun _ => this⟩⟩
  | e :: es, ok, hn => by
    have hn : (obind (obind (i64Of e.key) natOfI) fun k => obind (numAt h 5 k 0 vs) fun z => obind (noneOn h b vs es) fun r => some (!(z == b) && r)) = some ok := hn
    obtain ⟨k, hk, h1⟩ := obind_eq hn
    obtain ⟨z, hz, h2⟩ := obind_eq h1
    obtain ⟨r, hr, h3⟩ := obind_eq h2
    obtain ⟨q, hq, hk'⟩ := obind_eq hk
    have hkey : e.key = .int .i64 (k : Int) := by
      rw [i64_of hq]
      cases q with
      | ofNat m => simp [natOfI] at hk'; subst hk'; rfl
      | negSucc m => simp [natOfI] at hk'
    obtain ⟨a1, a2⟩ := none_on hr
    have hze : zOf h vs e = z := by
      unfold zOf
      rw [hk]; show (match numAt h 5 k 0 vs with | some z => z | none => 0) = z
      rw [hz]
    simp at h3; subst h3
    refine ⟨fun x hx => ?_, ?_⟩
    · rcases List.mem_cons.1 hx with rfl | hx
      · exact ⟨k, z, hkey, hz⟩
      · exact a1 x hx
    · rw [Bool.and_eq_true, a2]
      constructor
      · rintro ⟨h4, h5⟩ x hx
        rcases List.mem_cons.1 hx with rfl | hx
        · rw [hze]; simpa using h4
        · exact h5 x hx
      · intro hall
        refine ⟨?_, fun x hx => hall x (List.mem_cons_of_mem _ hx)⟩
        have := hall e List.mem_cons_self
        rw [hze] at this
        simpa using this
set_option maxRecDepth 10000 in
set_option maxHeartbeats 1000000 in
theorem note_walk {w : World} (hOk : C0.Ok drawOK w) {μ : Mu} {hF h : Heap} (hk : HOK hF) (hp : 0 < hF.next) (hfz : ∀ i, hF.get i = (h.get i).map frozenO) {b n : Int} {a : Addr} {row : List Value} (hrow : rowAt h a.block = some row) {res : FRes} (hs : noteAt h row a.off b n = some res)
    (hmap : ∀ mr es c, h.get mr = some (.map es c) → row[a.off + 38]? = some (.map (some mr)) → ∃ em ES, μ mr = some em ∧ w.heap[em.blk]? = some (.map ES c) ∧ ERels μ es ES.toList)
    {fr : Frame} {t : Array Value} {cs : List Frame} (S : St C0 drawOK w μ ⟨T 68 (argsFn [.agg ⟨[.int .i64 b, .int .i64 n]⟩, .pointer (some a)]), [], none⟩ hF none fr t [] cs w)
    (hOkA : ∀ w, C0.Ok drawOK w) :
    ∃ o, (res = .ret (mkTup []) h none ∧ o = none ∨ ∃ l, res = .panic (refusal l) h ∧ o = some l) ∧
      WEnd Tryz.prog w fr cs (lone (frm fr t [] [.code Tryz.f352.body.get!]) cs w) (o.map refusal) := by
  have hk0 := hk
  have rF : ∀ i l, rowAt h i = some l → rowAt hF i = some l := fun i l hi => by
    unfold rowAt at hi ⊢
    rw [hfz]
    cases hg : h.get i with
    | none => rw [hg] at hi; simp at hi
    | some x => rw [hg] at hi; cases x <;> first | exact hi | (simp [rowOf] at hi)
  obtain ⟨ab, ao, asp⟩ := a
  have hrowF := rF _ _ hrow
  unfold noteAt at hs
  obtain ⟨i, hi, hs⟩ := obind_eq hs
  obtain ⟨vh, hvh, hs⟩ := obind_eq hs
  obtain ⟨q, hq, hs⟩ := obind_eq hs
  rw [lget_eq] at hvh
  have hb : b = (i : Int) := by
    cases b with
    | ofNat m => simp [natOfI] at hi; subst hi; rfl
    | negSucc m => simp [natOfI] at hi
  subst hb
  obtain ⟨p, l, c, rfl⟩ : ∃ p l c, vh = .slice p l c := by
    cases vh <;> simp [sliceOf] at hq
    exact ⟨_, _, _, rfl⟩
  simp [sliceOf] at hq
  subst hq
  simp only [] at hvh hrow hrowF
  have k1 : HOK (hF.alloc (.row [.int .i64 (i : Int), .int .i64 n] 0 true)) := hk.alloc _
  have r1 : rowAt (hF.alloc (.row [.int .i64 (i : Int), .int .i64 n] 0 true)) ab = some row := ((Fr.refl hk).alloc _).row' hk hrowF
  have r2 : rowAt (hF.alloc (.row [.int .i64 (i : Int), .int .i64 n] 0 true)) hF.next = some [.int .i64 (i : Int), .int .i64 n] := rowAt_new _ _ _ _
  by_cases hil : i < l
  rotate_left
  · have hbl : Nat.ble (i + 1) l = false := by
      cases hx : Nat.ble (i + 1) l with
      | true => exact absurd (Nat.le_of_ble_eq_true hx) (by omega)
      | false => rfl
    have dl : decide ((i : Int) < (l : Int)) = false := decide_eq_false (by omega)
    rw [hbl] at hs
    have hs : noteNo [98, 111, 97, 114, 100] h = some res := hs
    simp [noteNo] at hs
    refine ⟨some [98, 111, 97, 114, 100], .inr ⟨_, hs.symm, rfl⟩, ?_⟩
    simp only [Tryz.f352, Option.get!]
    refine WEnd.steps (.one st_seq) ?_
    refine WEnd.go (Keeps.refl w) hOk S (R := At ⟨ab, ao, asp⟩ hF.next) (hF.alloc (.row [.int .i64 (i : Int), .int .i64 n] 0 true)) (by kernel_rfl) ?_ ?_
    · simp (maxDischargeDepth := 30) only [AA, ↓reduceIte, Nat.reduceLT, Nat.reduceEqDiff, Nat.reduceAdd, Nat.reduceMul, reduceCtorEq, Nat.reduceLeDiff, Int.reduceNe, Int.reduceEq, F352_TNW, hk]
      exact ⟨trivial, trivial, _, rfl, by simp [upd_at, argsFn_at], by simp [upd_at]⟩
    rintro f ⟨g1, g2⟩ μ1 w1 t1 _ _ S1
    refine WEnd.steps (.one st_seq) ?_
    refine WEnd.die (Keeps.refl w) hOk S1 (refusal_plain [98, 111, 97, 114, 100]) (by kernel_rfl) ?_
    refine W_draw [(true, 0), (true, 1), (true, 2), (true, 3), (true, 4), (true, 5), (true, 6), (true, 7), (true, 8), (true, 9), (true, 10), (true, 11), (true, 12), (true, 13), (true, 14), (true, 15), (true, 16), (true, 17), (true, 18), (true, 19)] (by kernel_rfl) ?_
    simp (maxDischargeDepth := 30) only [AA, ↓reduceIte, Nat.reduceLT, Nat.reduceEqDiff, Nat.reduceAdd, Nat.reduceMul, reduceCtorEq, Nat.reduceLeDiff, Int.reduceNe, Int.reduceEq, AMR, F352_TNW, k1, g1, g2, r1, r2, hvh, dl]
    refine W_callPX (must_no _ _) (fun v h' q => q.elim) ?_
    rintro v h' ⟨rfl, rfl⟩
    exact ⟨rfl, rfl⟩
  have hbl : Nat.ble (i + 1) l = true := Nat.ble_eq_true_of_le hil
  have dl : decide ((i : Int) < (l : Int)) = true := decide_eq_true (by omega)
  rw [hbl] at hs
  obtain ⟨x, hx, hs2⟩ := obind_eq hs
  clear hs
  obtain ⟨hb, ho, hsp, l', c', hl, e, _, hhl, hvx⟩ := num_at hx
  simp at e
  obtain ⟨rfl, rfl, rfl⟩ := e
  have hvx : hl[ho + i]? = some (.int .i64 x) := by simpa using hvx
  have rh1 : rowAt (hF.alloc (.row [.int .i64 (i : Int), .int .i64 n] 0 true)) hb = some hl := ((Fr.refl hk).alloc _).row' hk (rF _ _ hhl)
  by_cases hx0 : x < 0
  rotate_left
  · have d0 : decide (x < 0) = false := decide_eq_false hx0
    rw [d0] at hs2
    have hs3 : noteNo [98, 111, 97, 114, 100] h = some res := hs2
    simp [noteNo] at hs3
    refine ⟨some [98, 111, 97, 114, 100], .inr ⟨_, hs3.symm, rfl⟩, ?_⟩
    simp only [Tryz.f352, Option.get!]
    refine WEnd.steps (.one st_seq) ?_
    refine WEnd.go (Keeps.refl w) hOk S (R := At ⟨ab, ao, asp⟩ hF.next) (hF.alloc (.row [.int .i64 (i : Int), .int .i64 n] 0 true)) (by kernel_rfl) ?_ ?_
    · simp (maxDischargeDepth := 30) only [AA, ↓reduceIte, Nat.reduceLT, Nat.reduceEqDiff, Nat.reduceAdd, Nat.reduceMul, reduceCtorEq, Nat.reduceLeDiff, Int.reduceNe, Int.reduceEq, F352_TNW, hk]
      exact ⟨trivial, trivial, _, rfl, by simp [upd_at, argsFn_at], by simp [upd_at]⟩
    rintro f ⟨g1, g2⟩ μ1 w1 t1 _ _ S1
    refine WEnd.steps (.one st_seq) ?_
    refine WEnd.die (Keeps.refl w) hOk S1 (refusal_plain [98, 111, 97, 114, 100]) (by kernel_rfl) ?_
    refine W_draw [(true, 0), (true, 1), (true, 2), (true, 3), (true, 4), (true, 5), (true, 6), (true, 7), (true, 8), (true, 9), (true, 10), (true, 11), (true, 12), (true, 13), (true, 14), (true, 15), (true, 16), (true, 17), (true, 18), (true, 19)] (by kernel_rfl) ?_
    simp (maxDischargeDepth := 30) only [AA, ↓reduceIte, Nat.reduceLT, Nat.reduceEqDiff, Nat.reduceAdd, Nat.reduceMul, reduceCtorEq, Nat.reduceLeDiff, Int.reduceNe, Int.reduceEq, AMR, F352_TNW, k1, g1, g2, r1, r2, hvh, dl, hil, rh1, hvx, Nat.mul_one, d0]
    refine W_callPX (must_no _ _) (fun v h' q => q.elim) ?_
    rintro v h' ⟨rfl, rfl⟩
    exact ⟨rfl, rfl⟩
  have d0 : decide (x < 0) = true := decide_eq_true hx0
  rw [d0] at hs2
  have hs3 : (obind (lget row (ao + 33)) fun vb => obind (numAt h 5 i 2 vb) fun lo => obind (numAt h 5 i 3 vb) fun hi => match decide (lo ≤ n) && decide (n ≤ hi) with
    | true => obind (lget row (ao + 17)) fun vs => obind (lget row (ao + 38)) fun vm => obind (mapAt h vm) fun m => guardB (stampsOK m.2.1 m.2.2) (obind (noneOn h i vs m.2.1) (noteLast h))
    | false => noteNo [104, 111, 117, 114, 115] h) = some res := hs2
  obtain ⟨vb, hvb, hs4⟩ := obind_eq hs3
  obtain ⟨lo, hlo, hs5⟩ := obind_eq hs4
  obtain ⟨hi', hhi, hs6⟩ := obind_eq hs5
  clear hs2 hs3 hs4 hs5
  rw [lget_eq] at hvb
  obtain ⟨bb, bo, bsp, bl, bc, brow, rfl, hib, hbr, c2⟩ := num_at hlo
  obtain ⟨bb', bo', bsp', bl', bc', brow', e', hib', hbr', c3⟩ := num_at hhi
  simp at e'
  obtain ⟨⟨rfl, rfl, rfl⟩, rfl, rfl⟩ := e'
  rw [hbr] at hbr'
  obtain rfl := Option.some.inj hbr'
  clear hbr'
  have rb1 : rowAt (hF.alloc (.row [.int .i64 (i : Int), .int .i64 n] 0 true)) bb = some brow := ((Fr.refl hk).alloc _).row' hk (rF _ _ hbr)
  have tk : take? brow (bo + i * 5 + 2) 2 = some [.int .i64 lo, .int .i64 hi'] := take_two c2 c3
  have tk' : take? brow (bo + (i * 5 + 2)) 2 = some [.int .i64 lo, .int .i64 hi'] := by rw [← Nat.add_assoc]; exact tk
  have fr2 : Fr hF (((hF.alloc (.row [.int .i64 (i : Int), .int .i64 n] 0 true)).alloc (.row [.int .i64 0, .int .i64 0] 0 true)).set (hF.next + 1) (.row [.int .i64 lo, .int .i64 hi'] 0 true)) := (((Fr.refl hk).alloc _).alloc _).set (by omega) (by simp) _
  have path : ∀ {o : Option (List UInt8)}, (∀ f μ3 w3 t3, μ.le μ3 → f 1 = .pointer (some ⟨ab, ao, asp⟩) → f 2 = .pointer (some ⟨hF.next, 0, none⟩) → f 4 = .pointer (some ⟨hF.next + 1, 0, none⟩) →
      St C0 drawOK w μ3 ⟨T 68 f, [], none⟩ (((hF.alloc (.row [.int .i64 (i : Int), .int .i64 n] 0 true)).alloc (.row [.int .i64 0, .int .i64 0] 0 true)).set (hF.next + 1) (.row [.int .i64 lo, .int .i64 hi'] 0 true)) none fr t3 [] cs w3 →
      WEnd Tryz.prog w fr cs (lone (frm fr t3 [] [.code (tlC (tlC (tlC Tryz.f352.body.get!)))]) cs w3) (o.map refusal)) →
      WEnd Tryz.prog w fr cs (lone (frm fr t [] [.code Tryz.f352.body.get!]) cs w) (o.map refusal) := by
    intro o rest
    simp only [Tryz.f352, Option.get!]
    refine WEnd.steps (.one st_seq) ?_
    refine WEnd.go (Keeps.refl w) hOk S (R := At ⟨ab, ao, asp⟩ hF.next) (hF.alloc (.row [.int .i64 (i : Int), .int .i64 n] 0 true)) (by kernel_rfl) ?_ ?_
    · simp (maxDischargeDepth := 30) only [AA, ↓reduceIte, Nat.reduceLT, Nat.reduceEqDiff, Nat.reduceAdd, Nat.reduceMul, reduceCtorEq, Nat.reduceLeDiff, Int.reduceNe, Int.reduceEq, F352_TNW, hk]
      exact ⟨trivial, trivial, _, rfl, by simp [upd_at, argsFn_at], by simp [upd_at]⟩
    rintro f ⟨g1, g2⟩ μ1 w1 t1 le1 _ S1
    refine WEnd.steps (.one st_seq) ?_
    refine WEnd.go (Keeps.refl w) hOk S1 (R := At ⟨ab, ao, asp⟩ hF.next) (hF.alloc (.row [.int .i64 (i : Int), .int .i64 n] 0 true)) (by kernel_rfl) ?_ ?_
    · refine W_draw [(true, 0), (true, 1), (true, 2), (true, 3), (true, 4), (true, 5), (true, 6), (true, 7), (true, 8), (true, 9), (true, 10), (true, 11), (true, 12), (true, 13), (true, 14), (true, 15), (true, 16), (true, 17), (true, 18), (true, 19)] (by kernel_rfl) ?_
      simp (maxDischargeDepth := 30) only [AA, ↓reduceIte, Nat.reduceLT, Nat.reduceEqDiff, Nat.reduceAdd, Nat.reduceMul, reduceCtorEq, Nat.reduceLeDiff, Int.reduceNe, Int.reduceEq, AMR, F352_TNW, k1, g1, g2, r1, r2, hvh, dl, hil, rh1, hvx, Nat.mul_one, d0]
      refine W_callP (must_w _ _) ?_
      rintro v h' rfl
      simp (maxDischargeDepth := 30) only [AA, ↓reduceIte, Nat.reduceLT, Nat.reduceEqDiff, Nat.reduceAdd, Nat.reduceMul, reduceCtorEq, Nat.reduceLeDiff, Int.reduceNe, Int.reduceEq, AMR, F352_TNW, k1]
      exact ⟨trivial, trivial, _, rfl, by simp [upd_at, g1], by simp [upd_at, g2]⟩
    rintro f2 ⟨g1, g2⟩ μ2 w2 t2 le2 _ S2
    refine WEnd.steps (.one st_seq) ?_
    refine WEnd.go (Keeps.refl w) hOk S2 (R := fun f => f 1 = .pointer (some ⟨ab, ao, asp⟩) ∧ f 2 = .pointer (some ⟨hF.next, 0, none⟩) ∧ f 4 = .pointer (some ⟨hF.next + 1, 0, none⟩)) (((hF.alloc (.row [.int .i64 (i : Int), .int .i64 n] 0 true)).alloc (.row [.int .i64 0, .int .i64 0] 0 true)).set (hF.next + 1) (.row [.int .i64 lo, .int .i64 hi'] 0 true)) (by kernel_rfl) ?_ ?_
    · refine W_draw [(true, 0), (true, 1), (true, 2), (true, 3), (true, 4), (true, 5), (true, 6), (true, 7), (true, 8), (true, 9), (true, 10), (true, 11), (true, 12)] (by kernel_rfl) ?_
      simp (maxDischargeDepth := 30) only [AA, ↓reduceIte, Nat.reduceLT, Nat.reduceEqDiff, Nat.reduceAdd, Nat.reduceMul, reduceCtorEq, Nat.reduceLeDiff, Int.reduceNe, Int.reduceEq, AMR, F352_TNW, k1, g1, g2, r1, r2, hvb, hib, rb1, tk', Nat.add_assoc]
      refine ⟨trivial, trivial, _, rfl, by simp [upd_at, g1], by simp [upd_at, g2], by simp [upd_at]⟩
    rintro f3 ⟨g1, g2, g4⟩ μ3 w3 t3 le3 _ S3
    exact rest f3 μ3 w3 t3 (le1.trans (le2.trans le3)) g1 g2 g4 S3
  have k3 := fr2.ok
  have q1 := fr2.row' hk hrowF
  have q2 : rowAt (((hF.alloc (.row [.int .i64 (i : Int), .int .i64 n] 0 true)).alloc (.row [.int .i64 0, .int .i64 0] 0 true)).set (hF.next + 1) (.row [.int .i64 lo, .int .i64 hi'] 0 true)) hF.next = some [.int .i64 (i : Int), .int .i64 n] := by
    rw [rowAt_set_lt _ (by omega), rowAt_old _ (by simp)]; exact r2
  have q4 : rowAt (((hF.alloc (.row [.int .i64 (i : Int), .int .i64 n] 0 true)).alloc (.row [.int .i64 0, .int .i64 0] 0 true)).set (hF.next + 1) (.row [.int .i64 lo, .int .i64 hi'] 0 true)) (hF.next + 1) = some [.int .i64 lo, .int .i64 hi'] := rowAt_set_self _ _ _ _ _
  generalize (((hF.alloc (.row [.int .i64 (i : Int), .int .i64 n] 0 true)).alloc (.row [.int .i64 0, .int .i64 0] 0 true)).set (hF.next + 1) (.row [.int .i64 lo, .int .i64 hi'] 0 true)) = h3 at path fr2 k3 q1 q2 q4
  have din : (decide (lo ≤ n) && decide (n ≤ hi')) = inP n lo hi' := by unfold inP; exact (Bool.decide_and _ _).symm
  rw [din] at hs6
  cases hin : inP n lo hi' with
  | false =>
    rw [hin] at hs6
    have hs7 : noteNo [104, 111, 117, 114, 115] h = some res := hs6
    simp [noteNo] at hs7
    refine ⟨some [104, 111, 117, 114, 115], .inr ⟨_, hs7.symm, rfl⟩, path fun f μ3 w3 t3 _ g1 g2 g4 S3 => ?_⟩
    simp only [Tryz.f352, Option.get!, tlC]
    refine WEnd.steps (.one st_seq) ?_
    refine WEnd.die (Keeps.refl w) hOk S3 (refusal_plain [104, 111, 117, 114, 115]) (by kernel_rfl) ?_
    simp (maxDischargeDepth := 30) only [AA, ↓reduceIte, Nat.reduceLT, Nat.reduceEqDiff, Nat.reduceAdd, Nat.reduceMul, reduceCtorEq, Nat.reduceLeDiff, Int.reduceNe, Int.reduceEq, F352_TNW, k3, g1, g2, g4, q2, q4]
    refine W_call (in_w _ _ _ _) ?_
    rintro _ _ ⟨rfl, rfl⟩
    simp (maxDischargeDepth := 30) only [AA, ↓reduceIte, Nat.reduceLT, Nat.reduceEqDiff, Nat.reduceAdd, Nat.reduceMul, reduceCtorEq, Nat.reduceLeDiff, Int.reduceNe, Int.reduceEq, F352_TNW, k3, g1, g2, g4, q2, q4, hin]
    refine W_callX (must_no _ _) (fun v h' q => q.elim) ?_
    rintro v h' ⟨rfl, rfl⟩
    exact ⟨rfl, rfl⟩
  | true =>
    rw [hin] at hs6
    have hs7 : (obind (lget row (ao + 17)) fun vs => obind (lget row (ao + 38)) fun vm => obind (mapAt h vm) fun m => guardB (stampsOK m.2.1 m.2.2) (obind (noneOn h i vs m.2.1) (noteLast h))) = some res := hs6
    obtain ⟨vs, hvs, hs8⟩ := obind_eq hs7
    obtain ⟨vm, hvm, hs9⟩ := obind_eq hs8
    obtain ⟨m, hm, hs10⟩ := obind_eq hs9
    obtain ⟨hst, hs11⟩ := guardB_eq hs10
    obtain ⟨ok, hok, hs12⟩ := obind_eq hs11
    rw [lget_eq] at hvs hvm
    clear hs6 hs7 hs8 hs9 hs10 hs11
    have key : ∀ {o : Option (List UInt8)}, (∀ f μ3 w3 t3, μ.le μ3 → f 1 = .pointer (some ⟨ab, ao, asp⟩) → f 2 = .pointer (some ⟨hF.next, 0, none⟩) → St C0 drawOK w μ3 ⟨T 68 f, [], none⟩ h3 none fr t3 [] cs w3 →
        WEnd Tryz.prog w fr cs (lone (frm fr t3 [] [.code (tlC (tlC (tlC (tlC Tryz.f352.body.get!))))]) cs w3) (o.map refusal)) →
        WEnd Tryz.prog w fr cs (lone (frm fr t [] [.code Tryz.f352.body.get!]) cs w) (o.map refusal) := by
      intro o rest
      refine path fun f μ3 w3 t3 le3 g1 g2 g4 S3 => ?_
      simp only [Tryz.f352, Option.get!, tlC]
      refine WEnd.steps (.one st_seq) ?_
      refine WEnd.go (Keeps.refl w) hOk S3 (R := At ⟨ab, ao, asp⟩ hF.next) h3 (by kernel_rfl) ?_ ?_
      · simp (maxDischargeDepth := 30) only [AA, ↓reduceIte, Nat.reduceLT, Nat.reduceEqDiff, Nat.reduceAdd, Nat.reduceMul, reduceCtorEq, Nat.reduceLeDiff, Int.reduceNe, Int.reduceEq, F352_TNW, k3, g1, g2, g4, q2, q4]
        refine W_call (in_w _ _ _ _) ?_
        rintro _ _ ⟨rfl, rfl⟩
        simp (maxDischargeDepth := 30) only [AA, ↓reduceIte, Nat.reduceLT, Nat.reduceEqDiff, Nat.reduceAdd, Nat.reduceMul, reduceCtorEq, Nat.reduceLeDiff, Int.reduceNe, Int.reduceEq, F352_TNW, k3, g1, g2, g4, q2, q4, hin]
        refine W_call (must_w _ _) ?_
        rintro _ _ rfl
        simp (maxDischargeDepth := 30) only [AA, ↓reduceIte, Nat.reduceLT, Nat.reduceEqDiff, Nat.reduceAdd, Nat.reduceMul, reduceCtorEq, Nat.reduceLeDiff, Int.reduceNe, Int.reduceEq, F352_TNW, k3]
        exact ⟨trivial, trivial, _, rfl, by simp [upd_at, g1], by simp [upd_at, g2]⟩
      rintro f4 ⟨g1, g2⟩ μ4 w4 t4 le4 _ S4
      exact rest f4 μ4 w4 t4 (le3.trans le4) g1 g2 S4
    obtain ⟨mr, es, c⟩ := m
    obtain ⟨rfl, hget⟩ := map_at hm
    obtain ⟨em, ES, hem, hES, hE⟩ := hmap mr es c hget hvm
    obtain ⟨hst1, hst2⟩ := stamps_of hst
    obtain ⟨hk1, hk2⟩ := none_on hok
    have each : ∀ x ∈ ES.toList, ∃ e ∈ es, x.key = e.key ∧ x.born = e.born ∧ VRel μ e.val x.val := fun x hx => by
      obtain ⟨j, hj⟩ := List.getElem?_of_mem hx
      have hjl : j < es.length := by rw [hE.1]; exact (List.getElem?_eq_some_iff.1 hj).1
      have hej := List.getElem?_eq_getElem hjl
      obtain ⟨q1, q2, q3⟩ := hE.2 j _ x hej hj
      exact ⟨_, List.getElem_mem hjl, q1, q2, q3⟩
    have back : ∀ e ∈ es, ∃ x ∈ ES.toList, x.key = e.key := fun e he => by
      obtain ⟨j, hj⟩ := List.getElem?_of_mem he
      have hjl : j < ES.toList.length := by rw [← hE.1]; exact (List.getElem?_eq_some_iff.1 hj).1
      have hej := List.getElem?_eq_getElem hjl
      obtain ⟨q1, q2, q3⟩ := hE.2 j e _ hj hej
      exact ⟨_, List.getElem_mem hjl, q1⟩
    have hbs : ES.toList.map (·.born) = es.map (·.born) := by
      apply List.ext_getElem?
      intro j
      rw [List.getElem?_map, List.getElem?_map]
      cases hj : es[j]? with
      | none =>
        have : ES.toList[j]? = none := by rw [List.getElem?_eq_none_iff] at hj ⊢; rw [← hE.1]; exact hj
        rw [this]
      | some e =>
        have hjl : j < ES.toList.length := by rw [← hE.1]; exact (List.getElem?_eq_some_iff.1 hj).1
        have hej := List.getElem?_eq_getElem hjl
        rw [hej, Option.map_some, Option.map_some, (hE.2 j e _ hj hej).2.1]
    have zkey : ∀ x e : MapEntry, x.key = e.key → zOf h vs x = zOf h vs e := fun x e hxe => by unfold zOf; rw [hxe]
    have fin : ∀ {o : Option (List UInt8)}, (∀ x ∈ ES.toList, zOf h vs x = (i : Int) → o.map refusal = some (refusal [115, 116, 114, 111, 107, 101, 115])) → ((∀ x ∈ ES.toList, zOf h vs x ≠ (i : Int)) → o.map refusal = none) →
        WEnd Tryz.prog w fr cs (lone (frm fr t [] [.code Tryz.f352.body.get!]) cs w) (o.map refusal) := fun {o} ho1 ho0 => by
      refine key fun f μ3 w3 t3 le3 g1 g2 S3 => ?_
      refine note_start hOkA S3 g1 g2 q1 q2 hvs hvm (le3 _ _ hem) hES (fun x hx => ?_) (by rw [hbs]; exact hst2) (zf := zOf h vs) (fun x hx => ?_) ho1 ho0
      · obtain ⟨e, he, _, hb, _⟩ := each x hx
        rw [hb]; exact hst1 e he
      · obtain ⟨e, he, hke, _, hv⟩ := each x hx
        obtain ⟨k, z, hk, hz⟩ := hk1 e he
        obtain ⟨sb, so, ssp, sl, sc, srow, e1, e2, e3, e4⟩ := num_at hz
        have hzz : zOf h vs x = z := by unfold zOf; rw [hke, hk]; show (match numAt h 5 k 0 vs with | some z => z | none => 0) = z; rw [hz]
        exact ⟨k, sb, so, ssp, sl, sc, srow, e.val, hke.trans hk, e1, e2, fr2.row' hk0 (rF _ _ e3), by rw [hzz]; exact e4, hv.mono le3⟩
    cases hok' : ok with
    | true =>
      rw [hok'] at hs12
      simp [noteLast] at hs12
      refine ⟨none, .inl ⟨hs12.symm, rfl⟩, fin (fun x hx hz => ?_) (fun _ => rfl)⟩
      obtain ⟨e, he, hke, _, _⟩ := each x hx
      rw [zkey x e hke] at hz
      exact absurd hz ((hk2.1 hok') e he)
    | false =>
      rw [hok'] at hs12
      simp [noteLast, noteNo] at hs12
      refine ⟨some _, .inr ⟨_, hs12.symm, rfl⟩, fin (fun _ _ _ => rfl) (fun hall => ?_)⟩
      have : ok = true := hk2.2 fun e he => by
        obtain ⟨x, hx, hxe⟩ := back e he
        rw [← zkey x e hxe]; exact hall x hx
      rw [hok'] at this; cases this
theorem note_res {h : Heap} {row : List Value} {o : Nat} {b n : Int} {res : FRes} (hs : noteAt h row o b n = some res) : res = .ret (mkTup []) h none ∨ ∃ l, res = .panic (refusal l) h := by
  have no : ∀ {l}, noteNo l h = some res → ∃ l, res = .panic (refusal l) h := fun {l} h => ⟨l, by simpa [noteNo] using h.symm⟩
  unfold noteAt at hs
  obtain ⟨i, _, h1⟩ := obind_eq hs
  obtain ⟨vh, _, h2⟩ := obind_eq h1
  obtain ⟨q, _, h3⟩ := obind_eq h2
  split at h3
  · obtain ⟨x, _, h4⟩ := obind_eq h3
    unfold noteMore at h4
    split at h4
    · obtain ⟨vb, _, h5⟩ := obind_eq h4
      obtain ⟨lo, _, h6⟩ := obind_eq h5
      obtain ⟨hi, _, h7⟩ := obind_eq h6
      split at h7
      · obtain ⟨vs, _, h8⟩ := obind_eq h7
        obtain ⟨vm, _, h9⟩ := obind_eq h8
        obtain ⟨m, _, h10⟩ := obind_eq h9
        obtain ⟨_, h11⟩ := guardB_eq h10
        obtain ⟨ok, _, h12⟩ := obind_eq h11
        cases ok with
        | true => exact .inl (by simpa [noteLast] using h12.symm)
        | false => exact .inr (no h12)
      · exact .inr (no h7)
    · exact .inr (no h4)
  · exact .inr (no h3)
theorem note_ok {C' : Ctx} {gd : List Oper → Bool} {w0 : World} (hP : C'.P = Tryz.prog) (hOkA : ∀ w, C0.Ok drawOK w) : SpecOK C' gd w0 352 noteSpec := by
  intro μ h w args ARGS res H G hA hs
  rw [hP]
  unfold noteSpec at hs
  split at hs
  case h_2 => simp at hs
  rename_i h0 cs a
  obtain ⟨q, hq, hs1⟩ := obind_eq hs
  obtain ⟨row, hrow, hs2⟩ := obind_eq hs1
  clear hs hs1
  obtain ⟨L⟩ := cs
  obtain ⟨b, n, rfl, rfl⟩ : ∃ b n, L = [.int .i64 b, .int .i64 n] ∧ q = (b, n) := by
    unfold twoOf at hq
    split at hq
    · rename_i b n e
      simp at hq
      exact ⟨b, n, e, hq.symm⟩
    · simp at hq
  obtain ⟨hF, HF, hk, hfz⟩ := freeze (good' := goodP C0 drawOK) H
  have G' : GRel C0 μ := fun g hg => G g (by rw [hP]; exact hg)
  have hsl : VRel μ (.pointer (some a)) (ARGS.toList[1]?.getD undef) := by
    obtain ⟨V, L, hL, _, h2⟩ := hA.cons_inv
    obtain ⟨V2, L2, rfl, h3, _⟩ := h2.cons_inv
    rw [hL]; exact h3
  have hmap : ∀ mr es c, h.get mr = some (.map es c) → row[a.off + 38]? = some (.map (some mr)) → ∃ em ES, μ mr = some em ∧ w.heap[em.blk]? = some (.map ES c) ∧ ERels μ es ES.toList := by
    intro mr es c hm hr
    obtain ⟨A, _, ⟨_, e, he, _⟩⟩ := hsl.ptr_inv
    obtain ⟨Cr, el, fz, r1, r2, r3, r4⟩ := H.row he hrow
    obtain ⟨V, _, hV⟩ := r4.get hr
    obtain ⟨em, _, hem⟩ := hV.map_inv
    obtain ⟨_, ES, h1, h2⟩ := H.obj mr em _ hem hm
    exact ⟨em, ES, hem, h1, h2⟩
  have walk := fun fr cs t S => note_walk (hOkA w) hk HF.pos hfz hrow hs2 hmap (fr := fr) (t := t) (cs := cs) S hOkA
  rcases note_res hs2 with rfl | ⟨l, rfl⟩
  · refine (WEnd.calls (hOkA w) (f := 352) (fn := Tryz.f352) (by kernel_rfl) rfl rfl hA HF G' (by show 2 ≤ 68; omega) (o := none) fun fr cs t S => ?_).mono ?_
    · obtain ⟨o, ho, hw⟩ := walk fr cs t S
      rcases ho with ⟨_, rfl⟩ | ⟨l, h1, _⟩
      · exact hw
      · cases h1
    · rintro e w' ⟨hk', rfl⟩
      exact ⟨μ, fun _ _ a => a, Fresh.refl _ _, Nat.le_refl _, H.below hk'.1 hk'.2.1 hk'.2.2.1 hk'.2.2.2, .tup' .nil⟩
  · refine (WEnd.calls (hOkA w) (f := 352) (fn := Tryz.f352) (by kernel_rfl) rfl rfl hA HF G' (by show 2 ≤ 68; omega) (o := some (refusal l)) fun fr cs t S => ?_).mono ?_
    · obtain ⟨o, ho, hw⟩ := walk fr cs t S
      rcases ho with ⟨h1, _⟩ | ⟨l', h1, rfl⟩
      · cases h1
      · have : refusal l = refusal l' := by cases h1; rfl
        rw [this]; exact hw
    · rintro e w' ⟨hk', rfl⟩
      exact ⟨μ, _, fun _ _ a => a, Fresh.refl _ _, Nat.le_refl _, H.below hk'.1 hk'.2.1 hk'.2.2.1 hk'.2.2.2, .iface _ _ _ (.agg' (.cons (.plain _ rfl) .nil)), rfl⟩
end Go.Am.NB
