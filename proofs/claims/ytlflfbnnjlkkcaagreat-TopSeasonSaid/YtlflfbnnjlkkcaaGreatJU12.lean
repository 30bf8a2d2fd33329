/- The abstract machine over this program: shares. -/
import Derived.Test.YtlflfbnnjlkkcaaGreatJU10
import Derived.Test.YtlflfbnnjlkkcaaGreatJT85
set_option linter.unusedSimpArgs false
set_option linter.unusedVariables false
set_option linter.defProp false
namespace Go.Am
open Go Go.Proofs
def F293_U12 := A2 @bld_438 <| A2 @bs_22 <| A2 @fld_438_0 <| A2 @fld_438_1 <| A2 @fp_177_0 <| A2 @fp_438_0 <| A2 @fp_47_1 <| A2 @ix_22 <| A2 @ix_436 <| A2 @ld_166 <| A2 @ld_177 <| A2 @ld_3 <| A2 @ld_44 <| A2 @len_22 <| A2 @len_44 <| A2 @part_3 <| A2 @part_438 <| A2 @size_22 <| A2 @size_3 <| A2 @size_436 <| A2 @size_438 <| A2 @sp_438_0 <| A2 @sp_438_1 <| A2 @und_22 <| A2 @und_3 <| A2 @und_436 <| A2 @zero_22 <| A2 @zero_3 <| A2 @zero_436 @zero_438
theorem mem_set {α : Type} {l : List α} {i : Nat} {x y : α} (h : y ∈ l.set i x) : y ∈ l ∨ y = x := List.mem_or_eq_of_mem_set h
theorem rnd_le {r a b : Int} (ha : 0 ≤ a) (hb : 1 ≤ b) : rnd r a b ≤ a := by
  have hab : a ≤ a * b := by have := Int.mul_le_mul_of_nonneg_left hb ha; rwa [Int.mul_one] at this
  have hn : rNear a b ≤ a := by
    unfold rNear
    refine Int.lt_add_one_iff.1 (Int.ediv_lt_of_lt_mul (by omega) ?_)
    rw [show (a + 1) * (2 * b) = 2 * (a * b) + 2 * b by rw [Int.add_mul, Int.one_mul, Int.mul_left_comm]]
    omega
  unfold rnd
  split
  · unfold rDown
    refine Int.lt_add_one_iff.1 (Int.ediv_lt_of_lt_mul (by omega) ?_)
    rw [Int.add_mul]; omega
  · split
    · unfold rUp
      refine Int.lt_add_one_iff.1 (Int.ediv_lt_of_lt_mul (by omega) ?_)
      rw [Int.add_mul]; omega
    · split
      · exact hn
      · unfold rEven; split <;> omega
theorem price1_le {t : Tar} (ht : t.ok = true) {q : Int} (hq : 0 ≤ q) : 0 ≤ price1 t q ∧ price1 t q ≤ q * 500 := by
  have tk := Tar.ok_at ht
  have h0 : 0 ≤ q * t.coins := Int.mul_nonneg hq (by omega)
  have h1 : q * t.coins ≤ q * 500 := Int.mul_le_mul_of_nonneg_left (by omega) hq
  exact ⟨(rnd_b h0 (by omega)).1, Int.le_trans (rnd_le h0 (by omega)) h1⟩
theorem sumI_len {B : Int} {l : List Int} {n : Nat} (h : ∀ x ∈ l, 0 ≤ x ∧ x ≤ B) (hl : l.length ≤ n) (hB : 0 ≤ B) : 0 ≤ sumI l ∧ sumI l ≤ B * n := by
  have := sumI_bound h
  have : B * (l.length : Int) ≤ B * (n : Int) := Int.mul_le_mul_of_nonneg_left (by omega) hB
  omega
theorem paid_le {t : Tar} {bs : List Board} {hs : List Int} (ht : t.ok = true) (hl : hs.length = bs.length) (hq : ∀ x ∈ qtys t bs hs, 0 ≤ x ∧ x ≤ 60) : 0 ≤ paid t bs hs ∧ paid t bs hs ≤ 30000 * bs.length := by
  have hlen := qtys_len (t := t) hl
  unfold paid
  split
  · refine sumI_len (B := 30000) (fun x hx => ?_) (by unfold parts; rw [List.length_map, hlen]; exact Nat.le_refl _) (by omega)
    obtain ⟨q, h1, rfl⟩ := List.mem_map.1 hx
    have := hq q h1
    have := price1_le ht this.1
    omega
  · have h1 := sumI_len (n := bs.length) hq (by omega) (by omega)
    have := price1_le ht h1.1
    omega
theorem paid_b {t : Tar} {bs : List Board} {hs : List Int} (ht : t.ok = true) (hl : hs.length = bs.length) (hb : 1 ≤ bs.length ∧ bs.length ≤ 4) (hq : ∀ x ∈ qtys t bs hs, 0 ≤ x ∧ x ≤ 60) : 0 ≤ paid t bs hs ∧ paid t bs hs ≤ 1000000 := by
  have := paid_le ht hl hq
  omega
theorem not_one {h : Heap} {b : Nat} {sp : Option Nat} {c : Nat} (hr : rowAt h b = some [.int .i64 1]) : slIs h false 1 1 (matchT h false (plI [-1] .nil)) (.slice (some ⟨b, 0, sp⟩) 1 c) = false := by
  obtain ⟨ob, ho, hr'⟩ := obind_eq hr
  cases ob <;> simp [rowOf] at hr'
  subst hr'
  have hk : matchT h false (plI [-1] .nil) [.int .i64 1] = false := by kernel_rfl
  have ht : take? [Value.int .i64 1] 0 ((0 + 1) * 1) = some [.int .i64 1] := rfl
  simp only [slIs, ho, ht, hk, Bool.and_false]
theorem repeat_120 {h : Heap} (hk : HOK h) (hp : 0 < h.next) {b n : Nat} {sp : Option Nat} (g : rowAt h b = some [.int .i64 1]) (h2 : n = 2) :
    CW CC 156 [.slice (some ⟨b, 0, sp⟩) 1 1, .int .i64 n] h fun r h' => LS h' r (List.replicate n 1) ints 1 ∧ Fr h h' := by
  subst h2
  have hm : matchA h false repeat1A [.slice (some ⟨b, 0, sp⟩) 1 1, .int .i64 ((2 : Nat) : Int)] = true := by
    show ((true && (slIs h false 1 1 (matchT h false (plI [1] .nil)) (.slice (some ⟨b, 0, sp⟩) 1 1) && true)) && matchA h false [(false, plI [2] .nil)] [.int .i64 ((2 : Nat) : Int)]) = true
    have hs : slIs h false 1 1 (matchT h false (plI [1] .nil)) (.slice (some ⟨b, 0, sp⟩) 1 1) = true := slIs_of (xs := [(1 : Int)]) (f := ints) (LS.of_row ints_len g) (by simp) (by omega) rfl (by kernel_rfl)
    have hn : matchA h false [(false, plI [2] .nil)] [.int .i64 ((2 : Nat) : Int)] = true := by kernel_rfl
    simp only [hs, hn, Bool.and_self]
  have hm2 : matchA h false repeat2A [.slice (some ⟨b, 0, sp⟩) 1 1, .int .i64 ((2 : Nat) : Int)] = false := by
    show ((true && (slIs h false 1 1 (matchT h false (plI [-1] .nil)) (.slice (some ⟨b, 0, sp⟩) 1 1) && true)) && _) = false
    rw [not_one g]; kernel_rfl
  have hm4 : matchA h false repeat4A [.slice (some ⟨b, 0, sp⟩) 1 1, .int .i64 ((2 : Nat) : Int)] = false := by
    show ((true && (slIs h false 1 1 (matchT h false (plI [-1] .nil)) (.slice (some ⟨b, 0, sp⟩) 1 1) && true)) && _) = false
    rw [not_one g]; kernel_rfl
  have e : callF CC (Lim CC) 156 [.slice (some ⟨b, 0, sp⟩) 1 1, .int .i64 ((2 : Nat) : Int)] h = some (.ret (.slice (some ⟨h.next, 0, none⟩) 2 2) (h.ex [.row [.int .i64 1, .int .i64 1] 1 true]) none) := by
    refine spec_call (show CC.A 156 = some repeatSpec by kernel_rfl) ?_
    simp only [repeatSpec, closedSpec, hm, hm2, hm4, allocs_ex]
    rfl
  have f1 := ex_fr [.row [.int .i64 1, .int .i64 1] 1 true] (Fr.refl hk)
  exact ⟨_, _, e, LS.of_row (xs := [(1 : Int), 1]) ints_len (rx_at0 rfl), f1⟩
theorem bs_436 (x y : Int) : aBuildSlice CC 436 1 [(0, .agg ⟨[.int .i64 x, .int .i64 y]⟩)] = some (.new (.row [.int .i64 x, .int .i64 y] 2 true) (sliceTo 2 1 1)) := by kernel_rfl
theorem sink_len : ∀ (j : Nat) (L : List (Int × Nat)), (sink j L).length = L.length
  | 0, _ => rfl
  | j + 1, L => by
    unfold sink
    split
    · rw [sink_len j]; simp [swapAt]
    · rfl
theorem sortFrom_len : ∀ (m i : Nat) (L : List (Int × Nat)), (sortFrom m i L).length = L.length
  | 0, _, _ => rfl
  | m + 1, i, L => by unfold sortFrom; rw [sortFrom_len m, sink_len]
theorem getD_all {Q : Int × Nat → Prop} {L : List (Int × Nat)} (h : ∀ p ∈ L, Q p) (h0 : Q (0, 0)) (i : Nat) : Q (L.getD i (0, 0)) := by
  rw [List.getD_eq_getElem?_getD]
  cases e : L[i]? with
  | none => exact h0
  | some p => exact h p (List.mem_of_getElem? e)
theorem sink_all {Q : Int × Nat → Prop} (h0 : Q (0, 0)) : ∀ (j : Nat) (L : List (Int × Nat)), (∀ p ∈ L, Q p) → ∀ p ∈ sink j L, Q p
  | 0, _, h => h
  | j + 1, L, h => by
    unfold sink
    split
    · refine sink_all h0 j _ fun p hp => ?_
      unfold swapAt at hp
      rcases mem_set hp with hp | rfl
      · rcases mem_set hp with hp | rfl
        · exact h p hp
        · exact getD_all h h0 _
      · exact getD_all h h0 _
    · exact h
theorem sortFrom_all {Q : Int × Nat → Prop} {L : List (Int × Nat)} (h : ∀ p ∈ L, Q p) (h0 : Q (0, 0)) : ∀ (m i : Nat), ∀ p ∈ sortFrom m i L, Q p := by
  intro m
  induction m generalizing L with
  | zero => exact fun _ => h
  | succ m ih => exact fun i => ih (sink_all h0 i L h) (i + 1)
theorem foldl_bump_len (S : List (Int × Nat)) : ∀ out : List Int, (S.foldl (fun o p => bump o p.2) out).length = out.length := by
  induction S with
  | nil => intro _; rfl
  | cons p S ih => intro out; rw [List.foldl_cons, ih, bump_len]
theorem takeProg_len (i : Nat) (out : List Int) (S : List (Int × Nat)) : (takeProg i out S).length = out.length := foldl_bump_len _ _
theorem takeProg_step {i : Nat} {out : List Int} {S : List (Int × Nat)} {p : Int × Nat} {y : Int} (gp : S[i]? = some p) (gy : (takeProg i out S)[p.2]? = some y) : takeProg (i + 1) out S = (takeProg i out S).set p.2 (y + 1) := by
  unfold takeProg at gy ⊢
  rw [take_snoc gp, List.foldl_append, List.foldl_cons, List.foldl_nil, bump, List.getD_eq_getElem?_getD, gy]
  rfl
theorem sumI_ones : ∀ n : Nat, sumI (List.replicate n (1 : Int)) = n
  | 0 => rfl
  | n + 1 => by rw [List.replicate_succ, sumI_cons, sumI_ones n]; omega
theorem sameO_one : sameO (.row [.int .i64 1] 1 true) (.row [.int .i64 1] 1 true) = true := by kernel_rfl
set_option maxRecDepth 10000 in
set_option maxHeartbeats 8000000 in
theorem shares_89 {h : Heap} (hk : HOK h) (hp : 0 < h.next) {v : Value} {s : Sheet} {hs : List Int} {m : Nat} {t : Tar} (hv : IsBill h v s hs m) (hm : HasMap h m) (ok : s.ok = true) (two : s.boards.length = 2) (ht : t.ok = true) (hl : hs.length = s.boards.length) (hq : ∀ x ∈ qtys t s.boards hs, 0 ≤ x ∧ x ≤ 60) :
    CW CC 293 [v, .agg ⟨t.cells⟩] h fun r h' => SL h.next h' r ((sharesL (paid t s.boards hs) (weights s.offs.length t s.boards hs)).flatMap ints) 1 s.offs.length ∧ FrM m h h' := by
  have hlen := Sheet.ok_len ok
  have tk := Tar.ok_at ht
  have hP := paid_b ht hl ⟨by omega, by omega⟩ hq
  have hb := hv
  have hml := hm.lt hk
  have ql := qtys_len (t := t) hl
  have how : ∀ b ∈ s.boards, 0 ≤ b.ow ∧ b.ow < (s.offs.length : Int) := fun b hb => by
    have := of_decide_eq_true (Sheet.ok_boards ok b hb); omega
  obtain ⟨a, b, c, d, rfl, hsh, hh⟩ := hv.ex
  obtain ⟨p1, c1, rfl, _⟩ := hsh.offs.open
  obtain ⟨p2, c2, rfl, _⟩ := hsh.boards.open
  obtain ⟨p3, c3, rfl, _⟩ := hsh.tars.open
  obtain ⟨pd, cd, rfl, _⟩ := hh.open
  have kt : take? t.cells 0 5 = some t.cells := rfl
  have kc : t.cells.all selfC = true := rfl
  refine CW_in Tryz.f293 (by kernel_rfl) (by kernel_rfl) rfl rfl ?_
  simp only [Tryz.f293]
  have f1 : Fr h ((h.alloc (.row [.slice p1 s.offs.length c1, .slice p2 s.boards.length c2, .slice p3 s.tars.length c3, .slice pd hs.length cd, .map (some m)] 0 true)).alloc (.row t.cells 0 true)) := ((Fr.refl hk).alloc _).alloc _
  have r1 : rowAt ((h.alloc (.row [.slice p1 s.offs.length c1, .slice p2 s.boards.length c2, .slice p3 s.tars.length c3, .slice pd hs.length cd, .map (some m)] 0 true)).alloc (.row t.cells 0 true)) h.next = some [.slice p1 s.offs.length c1, .slice p2 s.boards.length c2, .slice p3 s.tars.length c3, .slice pd hs.length cd, .map (some m)] := by rw [rowAt_old _ (by simp), rowAt_new]
  have t1 : rowAt ((h.alloc (.row [.slice p1 s.offs.length c1, .slice p2 s.boards.length c2, .slice p3 s.tars.length c3, .slice pd hs.length cd, .map (some m)] 0 true)).alloc (.row t.cells 0 true)) (h.next + 1) = some t.cells := rowAt_at _ _ _ (by simp)
  have hb1 := hb.fr hk f1
  have hm1 := hm.fr hk f1
  simp (maxDischargeDepth := 30) only [AA, ↓reduceIte, Nat.reduceLT, Nat.reduceEqDiff, Nat.reduceAdd, Nat.reduceMul, reduceCtorEq, Nat.reduceLeDiff, Int.reduceNe, Int.reduceEq, F293_U12, hk, kt]
  generalize ((h.alloc (.row [.slice p1 s.offs.length c1, .slice p2 s.boards.length c2, .slice p3 s.tars.length c3, .slice pd hs.length cd, .map (some m)] 0 true)).alloc (.row t.cells 0 true)) = h1 at f1 r1 t1 hb1 hm1 ⊢
  refine W_call (paid_73 (t := t) f1.ok (by have := f1.next; omega) hb1 hm1 ht hl (by omega) fun x hx => by have := hq x hx; omega) ?_
  rintro _ h2 ⟨rfl, F2⟩
  have R2 := F2.rk f1.ok hm1
  have k2 := F2.ok
  have r2 := R2.rowAt r1
  have t2 := R2.rowAt t1
  have hb2 := hb1.rk R2
  have n2 : h.next ≤ h2.next := Nat.le_trans f1.next F2.next
  have toM : ∀ {H : Heap}, Fr h2 H → FrM m h H := fun {H} f => ((f1.frM hk hm).trans F2).trans (f.frM k2 F2.map)
  generalize hPe : paid t s.boards hs = P at hP
  simp (maxDischargeDepth := 30) only [AA, ↓reduceIte, Nat.reduceLT, Nat.reduceEqDiff, Nat.reduceAdd, Nat.reduceMul, reduceCtorEq, Nat.reduceLeDiff, Int.reduceNe, Int.reduceEq, F293_U12, k2]
  refine W_draw [(true, 0), (true, 1), (true, 2), (true, 3), (false, 0), (true, 4), (true, 5)] (by kernel_rfl) ?_
  simp (maxDischargeDepth := 30) only [AA, ↓reduceIte, Nat.reduceLT, Nat.reduceEqDiff, Nat.reduceAdd, Nat.reduceMul, reduceCtorEq, Nat.reduceLeDiff, Int.reduceNe, Int.reduceEq, F293_U12, k2, r2, t2, kt]
  refine W_callP (quantities_107 (t := t) k2 (by omega) hb2 tk.1 tk.2.1 hl (by omega)) ?_
  rintro Q h3 ⟨qQ, fr3⟩
  have r3 := fr3.row' k2 r2
  have t3 := fr3.row' k2 t2
  have LQ : LS h3 Q (qtys t s.boards hs) ints 1 := SL.ls ints_len (by rw [ql]; exact qQ)
  have kb : [Value.slice p1 s.offs.length c1, .slice p2 s.boards.length c2, .slice p3 s.tars.length c3, .slice pd hs.length cd, .map (some m)].all selfC = true := rfl
  simp (maxDischargeDepth := 30) only [AA, ↓reduceIte, Nat.reduceLT, Nat.reduceEqDiff, Nat.reduceAdd, Nat.reduceMul, reduceCtorEq, Nat.reduceLeDiff, Int.reduceNe, Int.reduceEq, AMR, F293_U12, fr3.ok, r3, t3, kt, kc, kb]
  refine W_callP (parted_119 fr3.ok (by have := fr3.next; omega) (hb2.fr k2 fr3) LQ ok ql (fun x hx => by have := hq x hx; omega)) ?_
  rintro W0 h4 ⟨qW, fr4⟩
  have f24 := fr3.trans fr4
  have r4 := fr4.row' fr3.ok r3
  have t4 := fr4.row' fr3.ok t3
  obtain ⟨pw, cw, rfl⟩ := qW.value
  have lW := ownParts_len s.offs.length s.boards (qtys t s.boards hs)
  have LW0 : LS h4 (.slice pw s.offs.length cw) (ownParts s.offs.length s.boards (qtys t s.boards hs)) ints 1 := SL.ls ints_len (by rw [lW]; exact qW)
  have W0b : ∀ x ∈ ownParts s.offs.length s.boards (qtys t s.boards hs), 0 ≤ x ∧ x ≤ 1000 := fun x hx => by
    unfold ownParts at hx
    rw [List.mem_map] at hx
    obtain ⟨k, _, rfl⟩ := hx
    have := ownSum_b (k := (k : Int)) (B := 60) (by omega) (bs := s.boards) hq
    omega
  have W0s := sumI_bound W0b
  simp (maxDischargeDepth := 30) only [AA, ↓reduceIte, Nat.reduceLT, Nat.reduceEqDiff, Nat.reduceAdd, Nat.reduceMul, reduceCtorEq, Nat.reduceLeDiff, Int.reduceNe, Int.reduceEq, AMR, F293_U12, f24.ok, r4, t4, kt, kc, kb]
  refine W_call (sum_105 _ (ownParts s.offs.length s.boards (qtys t s.boards hs)) h4 LW0 (by omega) fun x hx => by have := W0b x hx; omega) ?_
  rintro _ hE ⟨rfl, eE⟩
  rw [eE]
  clear eE hE
  cases hz : (sumI (ownParts s.offs.length s.boards (qtys t s.boards hs)) == 0) with
  | false =>
    have hz' : ¬ sumI (ownParts s.offs.length s.boards (qtys t s.boards hs)) = 0 := by simpa using hz
    have hWe : weights s.offs.length t s.boards hs = ownParts s.offs.length s.boards (qtys t s.boards hs) := by unfold weights; rw [if_neg hz']
    rw [hWe]
    clear hWe
    have hA : 1 ≤ sumI (ownParts s.offs.length s.boards (qtys t s.boards hs)) := by omega
    have toM : ∀ {H : Heap}, Fr h4 H → FrM m h H := fun {H} f => toM (f24.trans f)
    have kX := f24.ok
    have nX : h.next ≤ h4.next := Nat.le_trans n2 f24.next
    have qw : SL h2.next h4 (.slice pw s.offs.length cw) ((ownParts s.offs.length s.boards (qtys t s.boards hs)).flatMap ints) 1 s.offs.length := qW.weak fr3.next
    have hWlen := lW
    have hWb := W0b
    clear LW0 qW W0b W0s lW
    simp (maxDischargeDepth := 30) only [AA, ↓reduceIte, Nat.reduceLT, Nat.reduceEqDiff, Nat.reduceAdd, Nat.reduceMul, reduceCtorEq, Nat.reduceLeDiff, Int.reduceNe, Int.reduceEq, F293_U12, f24.ok, hz]
    clear hz
    generalize ownParts s.offs.length s.boards (qtys t s.boards hs) = WW at *
    have LW : LS h4 (.slice pw s.offs.length cw) WW ints 1 := SL.ls ints_len (by rw [hWlen]; exact qw)
    have hWs : sumI WW ≤ 1000000 := by have := sumI_len (n := 3) hWb (by omega) (by omega); omega
    have sum5 := sum_105 (.slice pw s.offs.length cw) WW h4 LW (by omega) (fun x hx => by have := hWb x hx; omega)
    refine W_call sum5 ?_
    rintro _ hE ⟨rfl, eE⟩
    rw [eE]
    clear eE hE
    simp (maxDischargeDepth := 30) only [AA, ↓reduceIte, Nat.reduceLT, Nat.reduceEqDiff, Nat.reduceAdd, Nat.reduceMul, reduceCtorEq, Nat.reduceLeDiff, Int.reduceNe, Int.reduceEq, F293_U12, kX]
    refine W_loop s.offs.length (fun m' f h' => ∃ i, i ≤ s.offs.length ∧ m' = s.offs.length - i ∧ f 5 = .int .i64 P ∧ f 7 = .int .i64 (sumI WW) ∧ f 34 = .slice pw s.offs.length cw ∧ f 35 = .int .i64 s.offs.length ∧ f 36 = .int .i64 i ∧
        SL h4.next h' (f 8) (((baseL P WW).take i).flatMap ints) 1 i ∧ SL h4.next h' (f 9) (((restL P WW).zipIdx.take i).flatMap restC) 2 i ∧ (∀ x, blkOf (f 8) = some x → blkOf (f 9) ≠ some x) ∧ Fr h4 h')
      ⟨0, by omega, by omega, by simp [upd_at], by simp [upd_at], by simp [upd_at], by simp [upd_at], by simp [upd_at], by simpa [upd_at] using SL.nil h4.next h4 1, by simpa [upd_at] using SL.nil h4.next h4 2, by simp [upd_at, blkOf], Fr.refl kX⟩ ?_
    rintro m' f h' ⟨i, hi, rfl, g5, g7, g34, g35, g36, q8, q9, hne, fr⟩ ih
    have k' := fr.ok
    by_cases hil : i < s.offs.length
    · obtain ⟨w, gw⟩ : ∃ x, WW[i]? = some x := ⟨_, List.getElem?_eq_getElem (by omega)⟩
      obtain ⟨b4, o4, sp4, row4, rfl, rr4, e4⟩ := LW.cell gw
      have rr4' := fr.row' kX rr4
      have hw := hWb w (List.mem_of_getElem? gw)
      have pw0 : 0 ≤ P * w := Int.mul_nonneg hP.1 hw.1
      have pw1 : P * w ≤ 1000000 * 1000 := Int.mul_le_mul hP.2 hw.2 hw.1 (by omega)
      have w1 : IntKind.i64.wrap (P * w) = P * w := wrap64 (by omega) (by omega)
      have dd := div_b (a := P * w) (b := sumI WW) pw0 hA
      have a0 : sumI WW ≠ 0 := by omega
      have w2 : IntKind.i64.wrap (P * w / sumI WW) = P * w / sumI WW := wrap64 (by omega) (by omega)
      have gb : (baseL P WW)[i]? = some (P * w / sumI WW) := by simp [baseL, gw]
      have gr : (restL P WW).zipIdx[i]? = some (P * w % sumI WW, i) := by rw [List.getElem?_zipIdx]; simp [restL, gw]
      have rm0 := Int.emod_nonneg (P * w) a0
      obtain ⟨h6, e6, q6, f6, n6, g6⟩ := append_one (ts := []) app_22 fr (by have := fr.next; omega) q8 (v := .int .i64 (P * w / sumI WW)) rfl (by omega)
      have q9' : SL h4.next h6 (f 9) (((restL P WW).zipIdx.take i).flatMap restC) 2 i := q9.keep fun b hb => g6 b (q9.blk_lt k' hb).2 fun e => hne b e hb
      obtain ⟨h7, e7, q7, f7, n7, g7'⟩ := append_row (ts := []) app_436 f6 (by omega) q9' (cs := [.int .i64 i, .int .i64 (P * w % sumI WW)]) rfl rfl (by omega)
      have q6' : SL h4.next h7 (.slice (some ⟨h'.next + 1, 0, some 1⟩) (i + 1) (i + 1)) (((baseL P WW).take i).flatMap ints ++ [.int .i64 (P * w / sumI WW)]) 1 (i + 1) := q6.keep fun b hb => g7' b (q6.blk_lt f6.ok hb).2 fun e => by
        have hb' : b = h'.next + 1 := by simp [blkOf] at hb; exact hb.symm
        have := (q9.blk_lt k' e).2
        omega
      have rr6 := f6.row' kX rr4
      simp (maxDischargeDepth := 30) only [AA, ↓reduceIte, Nat.reduceLT, Nat.reduceEqDiff, Nat.reduceAdd, Nat.reduceMul, reduceCtorEq, Nat.reduceLeDiff, Int.reduceNe, Int.reduceEq, F293_U12, k', g5, g7, g34, g35, g36, lt_t hil, hil, Nat.mul_one, rr4', e4, w1, I_quo _ _ _ _ (P * w) (sumI WW) a0, tdiv_nn pw0 hA, w2, bs_22 (cells_int _ _), e6, f6.ok, I_rem _ _ _ _ (P * w) (sumI WW) a0, tmod_nn pw0, bs_436, e7, i_next hil (by omega : s.offs.length ≤ 1000)]
      refine ih (s.offs.length - (i + 1)) _ _ (by omega) ?_
      refine ⟨i + 1, by omega, rfl, by simp [upd_at, g5], by simp [upd_at, g7], by simp [upd_at, g34], by simp [upd_at, g35], by simp [upd_at], ?_, ?_, ?_, f7⟩
      · rw [take_snoc gb, List.flatMap_append]
        simpa [upd_at, ints] using q6'
      · rw [take_snoc gr, List.flatMap_append]
        simpa [upd_at, restC] using q7
      · intro x hx
        simp [upd_at, blkOf] at hx ⊢
        omega
    · have : i = s.offs.length := by omega
      subst this
      have bl : (baseL P WW).length = s.offs.length := by simp [baseL, hWlen]
      have rl : (restL P WW).length = s.offs.length := by simp [restL, hWlen]
      have zl : (restL P WW).zipIdx.length = s.offs.length := by simp [rl]
      rw [List.take_of_length_le (by omega)] at q8 q9
      rcases q8 with ⟨_, _, e0⟩ | ⟨bo, eo, ob0, obN, og, _⟩
      · omega
      rcases q9 with ⟨_, _, e0⟩ | ⟨br, er, rb0, rbN, rg, _⟩
      · omega
      have hbr : bo ≠ br := fun e => hne bo (by rw [eo]; rfl) (by rw [er, e]; rfl)
      have zz := sort_121 (c := s.offs.length) (sp := some 2) k' rg (fun k p hp => by
        rw [List.getElem?_zipIdx] at hp
        cases hx : (restL P WW)[k]? with
        | none => rw [hx] at hp; simp at hp
        | some y =>
          rw [hx] at hp; simp at hp
          subst hp
          have := List.mem_of_getElem? hx
          unfold restL at this
          rw [List.mem_map] at this
          obtain ⟨w, hw', rfl⟩ := this
          have := Int.emod_nonneg (P * w) (show sumI WW ≠ 0 by omega)
          have := Int.emod_lt_of_pos (P * w) (show 0 < sumI WW by omega)
          simp only
          omega) (by omega) (by omega)
      rw [zl] at zz
      simp (maxDischargeDepth := 30) only [AA, ↓reduceIte, Nat.reduceLT, Nat.reduceEqDiff, Nat.reduceAdd, Nat.reduceMul, reduceCtorEq, Nat.reduceLeDiff, Int.reduceNe, Int.reduceEq, F293_U12, k', g35, g36, lt_f, eo, er]
      refine W_call zz ?_
      rintro _ h8 ⟨sg, kp⟩
      have bol : bo < h'.next := get_lt k' og
      have og8 : h8.get bo = some (.row ((baseL P WW).flatMap ints) 1 true) := by rw [kp.get bo bol hbr]; exact og
      have f8 : Fr h4 h8 := Kp.toFr fr kp rbN
      have ro8 : rowAt h8 bo = some ((baseL P WW).flatMap ints) := by unfold rowAt; rw [og8]; rfl
      have LB : LS h8 (.slice (some ⟨bo, 0, some 1⟩) s.offs.length s.offs.length) (baseL P WW) ints 1 := by
        have := LS.of_row (sp := some 1) (c := s.offs.length) ints_len ro8
        rw [bl] at this; exact this
      have bbd : ∀ x ∈ baseL P WW, 0 ≤ x ∧ x ≤ 1000000000 := fun x hx => by
        unfold baseL at hx
        rw [List.mem_map] at hx
        obtain ⟨w, hw', rfl⟩ := hx
        have hw := hWb w hw'
        have pw0 : 0 ≤ P * w := Int.mul_nonneg hP.1 hw.1
        have pw1 : P * w ≤ 1000000 * 1000 := Int.mul_le_mul hP.2 hw.2 hw.1 (by omega)
        have dd := div_b (a := P * w) (b := sumI WW) pw0 hA
        omega
      have lb := left_bP hP.1 (fun w hw => (hWb w hw).1) hA
      have ln : (leftN P WW : Int) = P - sumI (baseL P WW) := by unfold leftN; omega
      have hln : leftN P WW < s.offs.length := by rw [← hWlen]; omega
      have hsb := sumI_len (n := 3) bbd (by omega) (by omega)
      have w3 : IntKind.i64.wrap (P - sumI (baseL P WW)) = (leftN P WW : Int) := by rw [← ln, wrap64 (by omega) (by omega)]
      simp (maxDischargeDepth := 30) only [AA, ↓reduceIte, Nat.reduceLT, Nat.reduceEqDiff, Nat.reduceAdd, Nat.reduceMul, reduceCtorEq, Nat.reduceLeDiff, Int.reduceNe, Int.reduceEq, F293_U12, f8.ok, g5, eo]
      refine W_call (sum_105 _ (baseL P WW) h8 LB (by omega) fun x hx => by have := bbd x hx; omega) ?_
      rintro _ hE ⟨rfl, eE⟩
      rw [eE]
      clear eE hE
      have hS : ∀ p ∈ sortFrom (s.offs.length - 1) 1 (restL P WW).zipIdx, p.2 < s.offs.length := sortFrom_all (fun p hp => by
        obtain ⟨k, hk', rfl⟩ := List.mem_iff_getElem.1 hp
        simp; omega) (by show 0 < _; omega) _ _
      have sl : (sortFrom (s.offs.length - 1) 1 (restL P WW).zipIdx).length = s.offs.length := by rw [sortFrom_len, zl]
      have fin : takeProg (leftN P WW) (baseL P WW) (sortFrom (s.offs.length - 1) 1 (restL P WW).zipIdx) = sharesL P WW := by
        unfold sharesL
        have := take_same (out := baseL P WW) (r := restL P WW) (by omega) (by omega) (by omega) (fun x hx => by
          unfold restL at hx
          rw [List.mem_map] at hx
          obtain ⟨w, _, rfl⟩ := hx
          exact Int.emod_nonneg _ (by omega)) (n := leftN P WW) (by omega)
        rw [this, rl]
      generalize sortFrom (s.offs.length - 1) 1 (restL P WW).zipIdx = S at sg hS sl fin
      simp (maxDischargeDepth := 30) only [AA, ↓reduceIte, Nat.reduceLT, Nat.reduceEqDiff, Nat.reduceAdd, Nat.reduceMul, reduceCtorEq, Nat.reduceLeDiff, Int.reduceNe, Int.reduceEq, F293_U12, f8.ok, w3, eo]
      refine W_loop (leftN P WW) (fun m' f h' => ∃ i, i ≤ leftN P WW ∧ m' = leftN P WW - i ∧ f 8 = .slice (some ⟨bo, 0, some 1⟩) s.offs.length s.offs.length ∧ f 9 = .slice (some ⟨br, 0, some 2⟩) s.offs.length s.offs.length ∧ f 65 = .int .i64 (leftN P WW : Nat) ∧ f 66 = .int .i64 i ∧
          h'.get bo = some (.row ((takeProg i (baseL P WW) S).flatMap ints) 1 true) ∧ h'.get br = some (.row (S.flatMap restC) 2 true) ∧ (∀ x ∈ takeProg i (baseL P WW) S, 0 ≤ x ∧ x ≤ 1000000000 + i) ∧ Fr h4 h')
        ⟨0, by omega, by omega, by simp [upd_at, eo], by simp [upd_at, er], by simp [upd_at], by simp [upd_at], og8, sg, fun x hx => by have := bbd x hx; omega, f8⟩ ?_
      clear ih
      rintro m' f h' ⟨i, hi, rfl, g8, g9, g65, g66, go, gr, tb, fr⟩ ih
      have k' := fr.ok
      have tlen := takeProg_len i (baseL P WW) S
      by_cases hil : i < leftN P WW
      · have hiS : i < s.offs.length := by omega
        obtain ⟨p, gp⟩ : ∃ p, S[i]? = some p := ⟨_, List.getElem?_eq_getElem (by omega)⟩
        have hp2 := hS p (List.mem_of_getElem? gp)
        obtain ⟨y, gy⟩ : ∃ y, (takeProg i (baseL P WW) S)[p.2]? = some y := ⟨_, List.getElem?_eq_getElem (by omega)⟩
        have hy := tb y (List.mem_of_getElem? gy)
        have ro : rowAt h' bo = some ((takeProg i (baseL P WW) S).flatMap ints) := by unfold rowAt; rw [go]; rfl
        have rr : rowAt h' br = some (S.flatMap restC) := by unfold rowAt; rw [gr]; rfl
        have ec : (S.flatMap restC)[i * 2]? = some (.int .i64 (p.2 : Nat)) := by
          have := flat_cell restC_len gp
          obtain ⟨h1, h2⟩ := take?_inv this
          have := congrArg (·[0]?) h1
          simpa [restC, List.getElem?_take] using this.symm
        have ya := ints_atP gy
        have w4 : IntKind.i64.wrap (y + 1) = y + 1 := wrap64 (by omega) (by omega)
        have put := ints_put (y := y + 1) gy
        have st : (takeProg i (baseL P WW) S).set p.2 (y + 1) = takeProg (i + 1) (baseL P WW) S := (takeProg_step gp gy).symm
        rw [st] at put
        have tb' : ∀ x ∈ takeProg (i + 1) (baseL P WW) S, 0 ≤ x ∧ x ≤ 1000000000 + ((i + 1 : Nat) : Int) := fun x hx => by
          rw [← st] at hx
          rcases mem_set hx with q | rfl
          · have := tb x q; omega
          · omega
        have hli : decide ((i : Int) < (leftN P WW : Int)) = true := decide_eq_true (by omega)
        have wi : IntKind.i64.wrap ((i : Int) + 1) = ((i + 1 : Nat) : Int) := by rw [wrap64 (by omega) (by omega)]; omega
        simp (maxDischargeDepth := 30) only [AA, ↓reduceIte, Nat.reduceLT, Nat.reduceEqDiff, Nat.reduceAdd, Nat.reduceMul, reduceCtorEq, Nat.reduceLeDiff, Int.reduceNe, Int.reduceEq, F293_U12, k', g8, g9, g65, g66, hli, hiS, rr, ec, hp2, Nat.mul_one, ro, ya, w4, go, put, wi]
        refine ih (leftN P WW - (i + 1)) _ _ (by omega) ?_
        exact ⟨i + 1, by omega, rfl, by simp [upd_at, g8], by simp [upd_at, g9], by simp [upd_at, g65], by simp [upd_at], Heap.get_set_self _ _ _, by rw [Heap.get_set_ne _ _ (fun e => hbr e.symm)]; exact gr, tb', fr.set obN (get_lt k' go) _⟩
      · have : i = leftN P WW := by omega
        subst this
        rw [fin] at go
        have hli : decide ((leftN P WW : Int) < (leftN P WW : Int)) = false := decide_eq_false (by omega)
        simp (maxDischargeDepth := 30) only [AA, ↓reduceIte, Nat.reduceLT, Nat.reduceEqDiff, Nat.reduceAdd, Nat.reduceMul, reduceCtorEq, Nat.reduceLeDiff, Int.reduceNe, Int.reduceEq, F293_U12, k', g8, g65, g66, hli]
        refine ⟨.inr ⟨bo, rfl, ob0, by omega, go, ?_⟩, toM fr⟩
        rw [flat_len ints_len]
        have : (sharesL P WW).length = s.offs.length := by rw [← fin, tlen, bl]
        rw [this]
  | true =>
    have hz' : sumI (ownParts s.offs.length s.boards (qtys t s.boards hs)) = 0 := by simpa using hz
    have hWe : weights s.offs.length t s.boards hs = ownParts s.offs.length s.boards (List.replicate s.boards.length 1) := by unfold weights; rw [if_pos hz']
    rw [hWe]
    clear hWe
    simp (maxDischargeDepth := 30) only [AA, ↓reduceIte, Nat.reduceLT, Nat.reduceEqDiff, Nat.reduceAdd, Nat.reduceMul, reduceCtorEq, Nat.reduceLeDiff, Int.reduceNe, Int.reduceEq, F293_U12, f24.ok, hz]
    have fa : Fr h4 (h4.alloc (.row [.int .i64 1] 1 true)) := (Fr.refl f24.ok).alloc _
    have ga : rowAt (h4.alloc (.row [.int .i64 1] 1 true)) h4.next = some [.int .i64 1] := rowAt_new _ _ _ _
    have gg : (h4.alloc (.row [.int .i64 1] 1 true)).get h4.next = some (.row [.int .i64 1] 1 true) := Heap.get_alloc_self _ _
    have rep := repeat_120 (sp := some 1) fa.ok (by have := fa.next; have := f24.next; omega) ga (n := s.boards.length) two
    have hb4 := (hb2.fr k2 f24).fr f24.ok fa
    have ra := fa.row' f24.ok r4
    have ta := fa.row' f24.ok t4
    refine W_draw [(true, 0), (true, 1), (true, 2), (true, 3), (true, 4), (true, 5), (true, 6), (false, 0), (true, 7), (true, 8)] (by kernel_rfl) ?_
    simp (maxDischargeDepth := 30) only [AA, ↓reduceIte, Nat.reduceLT, Nat.reduceEqDiff, Nat.reduceAdd, Nat.reduceMul, reduceCtorEq, Nat.reduceLeDiff, Int.reduceNe, Int.reduceEq, AMR, F293_U12, f24.ok, r4, ra, kb, bs_22 (cells_int _ _)]
    refine W_callP rep ?_
    rintro RR h5 ⟨qR, fr5⟩
    have f45 := fa.trans fr5
    have r5 := fr5.row' fa.ok ra
    have t5 := fr5.row' fa.ok ta
    have gg5 := fr5.get' fa.ok gg
    have LR : LS h5 RR (List.replicate s.boards.length 1) ints 1 := qR
    simp (maxDischargeDepth := 30) only [AA, ↓reduceIte, Nat.reduceLT, Nat.reduceEqDiff, Nat.reduceAdd, Nat.reduceMul, reduceCtorEq, Nat.reduceLeDiff, Int.reduceNe, Int.reduceEq, AMR, F293_U12, fr5.ok, r5, kb, gg5, bs_22 (cells_int _ _), sameO_one]
    refine W_callP (parted_119 fr5.ok (by have := fr5.next; have := fa.next; have := f24.next; omega) (hb4.fr fa.ok fr5) LR ok (by rw [List.length_replicate]) (fun x hx => by have := List.eq_of_mem_replicate hx; omega)) ?_
    rintro W1 hX ⟨qw1, frX⟩
    have f26 := f24.trans (f45.trans frX)
    have rX := frX.row' fr5.ok r5
    have gg6 := frX.get' fr5.ok gg5
    obtain ⟨pq, cq, rfl⟩ := qw1.value
    simp (maxDischargeDepth := 30) only [AA, ↓reduceIte, Nat.reduceLT, Nat.reduceEqDiff, Nat.reduceAdd, Nat.reduceMul, reduceCtorEq, Nat.reduceLeDiff, Int.reduceNe, Int.reduceEq, AMR, F293_U12, frX.ok, rX, kb, gg6, bs_22 (cells_int _ _), sameO_one]
    have hA : 1 ≤ sumI (ownParts s.offs.length s.boards (List.replicate s.boards.length 1)) := by
      rw [ownParts_sum (by rw [List.length_replicate]) how, sumI_ones]; omega
    have hWlen := ownParts_len s.offs.length s.boards (List.replicate s.boards.length 1)
    have hWb : ∀ x ∈ ownParts s.offs.length s.boards (List.replicate s.boards.length 1), 0 ≤ x ∧ x ≤ 1000 := fun x hx => by
      unfold ownParts at hx
      rw [List.mem_map] at hx
      obtain ⟨k, _, rfl⟩ := hx
      have := ownSum_b (k := (k : Int)) (B := 1) (by omega) (bs := s.boards) (l := List.replicate s.boards.length 1) (fun x hx => by have := List.eq_of_mem_replicate hx; omega)
      rw [List.length_replicate] at this
      omega
    have toM : ∀ {H : Heap}, Fr hX H → FrM m h H := fun {H} f => toM (f26.trans f)
    have kX := f26.ok
    have nX : h.next ≤ hX.next := Nat.le_trans n2 f26.next
    have qw := qw1
    clear LW0 qW W0b W0s lW qw1 LR
    generalize ownParts s.offs.length s.boards (List.replicate s.boards.length 1) = WW at *
    have LW : LS hX (.slice pq s.offs.length cq) WW ints 1 := SL.ls ints_len (by rw [hWlen]; exact qw)
    have hWs : sumI WW ≤ 1000000 := by have := sumI_len (n := 3) hWb (by omega) (by omega); omega
    have sum5 := sum_105 (.slice pq s.offs.length cq) WW hX LW (by omega) (fun x hx => by have := hWb x hx; omega)
    refine W_call sum5 ?_
    rintro _ hE ⟨rfl, eE⟩
    rw [eE]
    clear eE hE
    simp (maxDischargeDepth := 30) only [AA, ↓reduceIte, Nat.reduceLT, Nat.reduceEqDiff, Nat.reduceAdd, Nat.reduceMul, reduceCtorEq, Nat.reduceLeDiff, Int.reduceNe, Int.reduceEq, F293_U12, kX]
    refine W_loop s.offs.length (fun m' f h' => ∃ i, i ≤ s.offs.length ∧ m' = s.offs.length - i ∧ f 5 = .int .i64 P ∧ f 7 = .int .i64 (sumI WW) ∧ f 34 = .slice pq s.offs.length cq ∧ f 35 = .int .i64 s.offs.length ∧ f 36 = .int .i64 i ∧
        SL hX.next h' (f 8) (((baseL P WW).take i).flatMap ints) 1 i ∧ SL hX.next h' (f 9) (((restL P WW).zipIdx.take i).flatMap restC) 2 i ∧ (∀ x, blkOf (f 8) = some x → blkOf (f 9) ≠ some x) ∧ Fr hX h')
      ⟨0, by omega, by omega, by simp [upd_at], by simp [upd_at], by simp [upd_at], by simp [upd_at], by simp [upd_at], by simpa [upd_at] using SL.nil hX.next hX 1, by simpa [upd_at] using SL.nil hX.next hX 2, by simp [upd_at, blkOf], Fr.refl kX⟩ ?_
    rintro m' f h' ⟨i, hi, rfl, g5, g7, g34, g35, g36, q8, q9, hne, fr⟩ ih
    have k' := fr.ok
    by_cases hil : i < s.offs.length
    · obtain ⟨w, gw⟩ : ∃ x, WW[i]? = some x := ⟨_, List.getElem?_eq_getElem (by omega)⟩
      obtain ⟨b4, o4, sp4, row4, rfl, rr4, e4⟩ := LW.cell gw
      have rr4' := fr.row' kX rr4
      have hw := hWb w (List.mem_of_getElem? gw)
      have pw0 : 0 ≤ P * w := Int.mul_nonneg hP.1 hw.1
      have pw1 : P * w ≤ 1000000 * 1000 := Int.mul_le_mul hP.2 hw.2 hw.1 (by omega)
      have w1 : IntKind.i64.wrap (P * w) = P * w := wrap64 (by omega) (by omega)
      have dd := div_b (a := P * w) (b := sumI WW) pw0 hA
      have a0 : sumI WW ≠ 0 := by omega
      have w2 : IntKind.i64.wrap (P * w / sumI WW) = P * w / sumI WW := wrap64 (by omega) (by omega)
      have gb : (baseL P WW)[i]? = some (P * w / sumI WW) := by simp [baseL, gw]
      have gr : (restL P WW).zipIdx[i]? = some (P * w % sumI WW, i) := by rw [List.getElem?_zipIdx]; simp [restL, gw]
      have rm0 := Int.emod_nonneg (P * w) a0
      obtain ⟨h6, e6, q6, f6, n6, g6⟩ := append_one (ts := []) app_22 fr (by have := fr.next; omega) q8 (v := .int .i64 (P * w / sumI WW)) rfl (by omega)
      have q9' : SL hX.next h6 (f 9) (((restL P WW).zipIdx.take i).flatMap restC) 2 i := q9.keep fun b hb => g6 b (q9.blk_lt k' hb).2 fun e => hne b e hb
      obtain ⟨h7, e7, q7, f7, n7, g7'⟩ := append_row (ts := []) app_436 f6 (by omega) q9' (cs := [.int .i64 i, .int .i64 (P * w % sumI WW)]) rfl rfl (by omega)
      have q6' : SL hX.next h7 (.slice (some ⟨h'.next + 1, 0, some 1⟩) (i + 1) (i + 1)) (((baseL P WW).take i).flatMap ints ++ [.int .i64 (P * w / sumI WW)]) 1 (i + 1) := q6.keep fun b hb => g7' b (q6.blk_lt f6.ok hb).2 fun e => by
        have hb' : b = h'.next + 1 := by simp [blkOf] at hb; exact hb.symm
        have := (q9.blk_lt k' e).2
        omega
      have rr6 := f6.row' kX rr4
      simp (maxDischargeDepth := 30) only [AA, ↓reduceIte, Nat.reduceLT, Nat.reduceEqDiff, Nat.reduceAdd, Nat.reduceMul, reduceCtorEq, Nat.reduceLeDiff, Int.reduceNe, Int.reduceEq, F293_U12, k', g5, g7, g34, g35, g36, lt_t hil, hil, Nat.mul_one, rr4', e4, w1, I_quo _ _ _ _ (P * w) (sumI WW) a0, tdiv_nn pw0 hA, w2, bs_22 (cells_int _ _), e6, f6.ok, I_rem _ _ _ _ (P * w) (sumI WW) a0, tmod_nn pw0, bs_436, e7, i_next hil (by omega : s.offs.length ≤ 1000)]
      refine ih (s.offs.length - (i + 1)) _ _ (by omega) ?_
      refine ⟨i + 1, by omega, rfl, by simp [upd_at, g5], by simp [upd_at, g7], by simp [upd_at, g34], by simp [upd_at, g35], by simp [upd_at], ?_, ?_, ?_, f7⟩
      · rw [take_snoc gb, List.flatMap_append]
        simpa [upd_at, ints] using q6'
      · rw [take_snoc gr, List.flatMap_append]
        simpa [upd_at, restC] using q7
      · intro x hx
        simp [upd_at, blkOf] at hx ⊢
        omega
    · have : i = s.offs.length := by omega
      subst this
      have bl : (baseL P WW).length = s.offs.length := by simp [baseL, hWlen]
      have rl : (restL P WW).length = s.offs.length := by simp [restL, hWlen]
      have zl : (restL P WW).zipIdx.length = s.offs.length := by simp [rl]
      rw [List.take_of_length_le (by omega)] at q8 q9
      rcases q8 with ⟨_, _, e0⟩ | ⟨bo, eo, ob0, obN, og, _⟩
      · omega
      rcases q9 with ⟨_, _, e0⟩ | ⟨br, er, rb0, rbN, rg, _⟩
      · omega
      have hbr : bo ≠ br := fun e => hne bo (by rw [eo]; rfl) (by rw [er, e]; rfl)
      have zz := sort_121 (c := s.offs.length) (sp := some 2) k' rg (fun k p hp => by
        rw [List.getElem?_zipIdx] at hp
        cases hx : (restL P WW)[k]? with
        | none => rw [hx] at hp; simp at hp
        | some y =>
          rw [hx] at hp; simp at hp
          subst hp
          have := List.mem_of_getElem? hx
          unfold restL at this
          rw [List.mem_map] at this
          obtain ⟨w, hw', rfl⟩ := this
          have := Int.emod_nonneg (P * w) (show sumI WW ≠ 0 by omega)
          have := Int.emod_lt_of_pos (P * w) (show 0 < sumI WW by omega)
          simp only
          omega) (by omega) (by omega)
      rw [zl] at zz
      simp (maxDischargeDepth := 30) only [AA, ↓reduceIte, Nat.reduceLT, Nat.reduceEqDiff, Nat.reduceAdd, Nat.reduceMul, reduceCtorEq, Nat.reduceLeDiff, Int.reduceNe, Int.reduceEq, F293_U12, k', g35, g36, lt_f, eo, er]
      refine W_call zz ?_
      rintro _ h8 ⟨sg, kp⟩
      have bol : bo < h'.next := get_lt k' og
      have og8 : h8.get bo = some (.row ((baseL P WW).flatMap ints) 1 true) := by rw [kp.get bo bol hbr]; exact og
      have f8 : Fr hX h8 := Kp.toFr fr kp rbN
      have ro8 : rowAt h8 bo = some ((baseL P WW).flatMap ints) := by unfold rowAt; rw [og8]; rfl
      have LB : LS h8 (.slice (some ⟨bo, 0, some 1⟩) s.offs.length s.offs.length) (baseL P WW) ints 1 := by
        have := LS.of_row (sp := some 1) (c := s.offs.length) ints_len ro8
        rw [bl] at this; exact this
      have bbd : ∀ x ∈ baseL P WW, 0 ≤ x ∧ x ≤ 1000000000 := fun x hx => by
        unfold baseL at hx
        rw [List.mem_map] at hx
        obtain ⟨w, hw', rfl⟩ := hx
        have hw := hWb w hw'
        have pw0 : 0 ≤ P * w := Int.mul_nonneg hP.1 hw.1
        have pw1 : P * w ≤ 1000000 * 1000 := Int.mul_le_mul hP.2 hw.2 hw.1 (by omega)
        have dd := div_b (a := P * w) (b := sumI WW) pw0 hA
        omega
      have lb := left_bP hP.1 (fun w hw => (hWb w hw).1) hA
      have ln : (leftN P WW : Int) = P - sumI (baseL P WW) := by unfold leftN; omega
      have hln : leftN P WW < s.offs.length := by rw [← hWlen]; omega
      have hsb := sumI_len (n := 3) bbd (by omega) (by omega)
      have w3 : IntKind.i64.wrap (P - sumI (baseL P WW)) = (leftN P WW : Int) := by rw [← ln, wrap64 (by omega) (by omega)]
      simp (maxDischargeDepth := 30) only [AA, ↓reduceIte, Nat.reduceLT, Nat.reduceEqDiff, Nat.reduceAdd, Nat.reduceMul, reduceCtorEq, Nat.reduceLeDiff, Int.reduceNe, Int.reduceEq, F293_U12, f8.ok, g5, eo]
      refine W_call (sum_105 _ (baseL P WW) h8 LB (by omega) fun x hx => by have := bbd x hx; omega) ?_
      rintro _ hE ⟨rfl, eE⟩
      rw [eE]
      clear eE hE
      have hS : ∀ p ∈ sortFrom (s.offs.length - 1) 1 (restL P WW).zipIdx, p.2 < s.offs.length := sortFrom_all (fun p hp => by
        obtain ⟨k, hk', rfl⟩ := List.mem_iff_getElem.1 hp
        simp; omega) (by show 0 < _; omega) _ _
      have sl : (sortFrom (s.offs.length - 1) 1 (restL P WW).zipIdx).length = s.offs.length := by rw [sortFrom_len, zl]
      have fin : takeProg (leftN P WW) (baseL P WW) (sortFrom (s.offs.length - 1) 1 (restL P WW).zipIdx) = sharesL P WW := by
        unfold sharesL
        have := take_same (out := baseL P WW) (r := restL P WW) (by omega) (by omega) (by omega) (fun x hx => by
          unfold restL at hx
          rw [List.mem_map] at hx
          obtain ⟨w, _, rfl⟩ := hx
          exact Int.emod_nonneg _ (by omega)) (n := leftN P WW) (by omega)
        rw [this, rl]
      generalize sortFrom (s.offs.length - 1) 1 (restL P WW).zipIdx = S at sg hS sl fin
      simp (maxDischargeDepth := 30) only [AA, ↓reduceIte, Nat.reduceLT, Nat.reduceEqDiff, Nat.reduceAdd, Nat.reduceMul, reduceCtorEq, Nat.reduceLeDiff, Int.reduceNe, Int.reduceEq, F293_U12, f8.ok, w3, eo]
      refine W_loop (leftN P WW) (fun m' f h' => ∃ i, i ≤ leftN P WW ∧ m' = leftN P WW - i ∧ f 8 = .slice (some ⟨bo, 0, some 1⟩) s.offs.length s.offs.length ∧ f 9 = .slice (some ⟨br, 0, some 2⟩) s.offs.length s.offs.length ∧ f 65 = .int .i64 (leftN P WW : Nat) ∧ f 66 = .int .i64 i ∧
          h'.get bo = some (.row ((takeProg i (baseL P WW) S).flatMap ints) 1 true) ∧ h'.get br = some (.row (S.flatMap restC) 2 true) ∧ (∀ x ∈ takeProg i (baseL P WW) S, 0 ≤ x ∧ x ≤ 1000000000 + i) ∧ Fr hX h')
        ⟨0, by omega, by omega, by simp [upd_at, eo], by simp [upd_at, er], by simp [upd_at], by simp [upd_at], og8, sg, fun x hx => by have := bbd x hx; omega, f8⟩ ?_
      clear ih
      rintro m' f h' ⟨i, hi, rfl, g8, g9, g65, g66, go, gr, tb, fr⟩ ih
      have k' := fr.ok
      have tlen := takeProg_len i (baseL P WW) S
      by_cases hil : i < leftN P WW
      · have hiS : i < s.offs.length := by omega
        obtain ⟨p, gp⟩ : ∃ p, S[i]? = some p := ⟨_, List.getElem?_eq_getElem (by omega)⟩
        have hp2 := hS p (List.mem_of_getElem? gp)
        obtain ⟨y, gy⟩ : ∃ y, (takeProg i (baseL P WW) S)[p.2]? = some y := ⟨_, List.getElem?_eq_getElem (by omega)⟩
        have hy := tb y (List.mem_of_getElem? gy)
        have ro : rowAt h' bo = some ((takeProg i (baseL P WW) S).flatMap ints) := by unfold rowAt; rw [go]; rfl
        have rr : rowAt h' br = some (S.flatMap restC) := by unfold rowAt; rw [gr]; rfl
        have ec : (S.flatMap restC)[i * 2]? = some (.int .i64 (p.2 : Nat)) := by
          have := flat_cell restC_len gp
          obtain ⟨h1, h2⟩ := take?_inv this
          have := congrArg (·[0]?) h1
          simpa [restC, List.getElem?_take] using this.symm
        have ya := ints_atP gy
        have w4 : IntKind.i64.wrap (y + 1) = y + 1 := wrap64 (by omega) (by omega)
        have put := ints_put (y := y + 1) gy
        have st : (takeProg i (baseL P WW) S).set p.2 (y + 1) = takeProg (i + 1) (baseL P WW) S := (takeProg_step gp gy).symm
        rw [st] at put
        have tb' : ∀ x ∈ takeProg (i + 1) (baseL P WW) S, 0 ≤ x ∧ x ≤ 1000000000 + ((i + 1 : Nat) : Int) := fun x hx => by
          rw [← st] at hx
          rcases mem_set hx with q | rfl
          · have := tb x q; omega
          · omega
        have hli : decide ((i : Int) < (leftN P WW : Int)) = true := decide_eq_true (by omega)
        have wi : IntKind.i64.wrap ((i : Int) + 1) = ((i + 1 : Nat) : Int) := by rw [wrap64 (by omega) (by omega)]; omega
        simp (maxDischargeDepth := 30) only [AA, ↓reduceIte, Nat.reduceLT, Nat.reduceEqDiff, Nat.reduceAdd, Nat.reduceMul, reduceCtorEq, Nat.reduceLeDiff, Int.reduceNe, Int.reduceEq, F293_U12, k', g8, g9, g65, g66, hli, hiS, rr, ec, hp2, Nat.mul_one, ro, ya, w4, go, put, wi]
        refine ih (leftN P WW - (i + 1)) _ _ (by omega) ?_
        exact ⟨i + 1, by omega, rfl, by simp [upd_at, g8], by simp [upd_at, g9], by simp [upd_at, g65], by simp [upd_at], Heap.get_set_self _ _ _, by rw [Heap.get_set_ne _ _ (fun e => hbr e.symm)]; exact gr, tb', fr.set obN (get_lt k' go) _⟩
      · have : i = leftN P WW := by omega
        subst this
        rw [fin] at go
        have hli : decide ((leftN P WW : Int) < (leftN P WW : Int)) = false := decide_eq_false (by omega)
        simp (maxDischargeDepth := 30) only [AA, ↓reduceIte, Nat.reduceLT, Nat.reduceEqDiff, Nat.reduceAdd, Nat.reduceMul, reduceCtorEq, Nat.reduceLeDiff, Int.reduceNe, Int.reduceEq, F293_U12, k', g8, g65, g66, hli]
        refine ⟨.inr ⟨bo, rfl, ob0, by omega, go, ?_⟩, toM fr⟩
        rw [flat_len ints_len]
        have : (sharesL P WW).length = s.offs.length := by rw [← fin, tlen, bl]
        rw [this]
end Go.Am
