/- Parts 96, 97 of the abstract machine over this program, joined: what each part says stands at its head. -/
import Derived.Test.YtfnkjclplfhjcaaGreatDoorJ81
set_option linter.unusedSimpArgs false
set_option linter.unusedVariables false
/- PLAIN: shares: the parts of owners, and who gets the coins that are left. -/
namespace Go.Am
open Go

/-- what of some numbers, one for each board, is an owner's -/
def ownOf (k : Int) (p : Board × Int) : Int := if p.1.ow == k then p.2 else 0
def ownSum (k : Int) (bs : List Board) (l : List Int) : Int := sumI ((bs.zip l).map (ownOf k))
/-- of all owners -/
def ownParts (n : Nat) (bs : List Board) (l : List Int) : List Int := (List.range n).map fun (k : Nat) => ownSum k bs l
theorem ownParts_len (n : Nat) (bs : List Board) (l : List Int) : (ownParts n bs l).length = n := by simp [ownParts]
theorem ownParts_get {n : Nat} {bs : List Board} {l : List Int} {k : Nat} (h : k < n) : (ownParts n bs l)[k]? = some (ownSum k bs l) := by simp [ownParts, h]
theorem ownSum_nil (k : Int) : ownSum k [] [] = 0 := rfl
theorem ownSum_cons (k : Int) (b : Board) (x : Int) (bs : List Board) (l : List Int) : ownSum k (b :: bs) (x :: l) = ownOf k (b, x) + ownSum k bs l := by
  unfold ownSum; rw [List.zip_cons_cons, List.map_cons, sumI_cons]
theorem ownSum_snoc {k : Int} {bs : List Board} {l : List Int} {i : Nat} {b : Board} {x : Int} (hb : bs[i]? = some b) (hx : l[i]? = some x) : ownSum k (bs.take (i + 1)) (l.take (i + 1)) = ownSum k (bs.take i) (l.take i) + ownOf k (b, x) := by
  unfold ownSum
  have e : ∀ j, (bs.take j).zip (l.take j) = (bs.zip l).take j := fun j => by simp [List.zip, List.take_zipWith]
  rw [e, e, take_snoc (List.getElem?_zip_eq_some.2 ⟨hb, hx⟩ : (bs.zip l)[i]? = some (b, x)), List.map_append, List.map_cons, List.map_nil, sumI_app]
theorem ownParts_zero (n : Nat) : ownParts n [] [] = List.replicate n 0 := by
  show (List.range n).map (fun _ => (0 : Int)) = _
  rw [List.map_const', List.length_range]
theorem ownParts_step {n : Nat} {bs : List Board} {l : List Int} {i w : Nat} {b : Board} {x y : Int} (hb : bs[i]? = some b) (hx : l[i]? = some x) (hw : b.ow = w) (hwn : w < n) (hy : (ownParts n (bs.take i) (l.take i))[w]? = some y) :
    (ownParts n (bs.take i) (l.take i)).set w (y + x) = ownParts n (bs.take (i + 1)) (l.take (i + 1)) := by
  apply List.ext_getElem?
  intro k
  by_cases hk : k < n
  · rw [ownParts_get hk, ownSum_snoc hb hx]
    by_cases e : w = k
    · subst e
      rw [List.getElem?_set_self (by rw [ownParts_len]; exact hk)]
      rw [ownParts_get hk] at hy
      simp at hy
      subst hy
      simp [ownOf, hw]
    · rw [List.getElem?_set_ne e, ownParts_get hk]
      have : (b.ow == (k : Int)) = false := beq_eq_false_iff_ne.2 (by omega)
      simp [ownOf, this]
  · rw [List.getElem?_eq_none (by simp [ownParts_len]; omega), List.getElem?_eq_none (by rw [ownParts_len]; omega)]

theorem ownSum_b {k B : Int} (hB : 0 ≤ B) : ∀ {bs : List Board} {l : List Int}, (∀ x ∈ l, 0 ≤ x ∧ x ≤ B) → 0 ≤ ownSum k bs l ∧ ownSum k bs l ≤ B * l.length
  | [], l, h => by
    have : (0 : Int) ≤ B * l.length := Int.mul_nonneg hB (by omega)
    simpa [ownSum, sumI] using this
  | b :: bs, [], h => by simp [ownSum, sumI]
  | b :: bs, x :: l, h => by
    have h1 := h x List.mem_cons_self
    have h2 := ownSum_b (k := k) hB (bs := bs) (l := l) fun y hy => h y (List.mem_cons_of_mem _ hy)
    rw [ownSum_cons]
    have e : B * ((x :: l).length : Int) = B * l.length + B := by
      rw [List.length_cons, show ((l.length + 1 : Nat) : Int) = (l.length : Int) + 1 by omega, Int.mul_add, Int.mul_one]
    rw [e]
    unfold ownOf
    split <;> omega

theorem sumI_addf {α : Type} (f g : α → Int) : ∀ l : List α, sumI (l.map fun x => f x + g x) = sumI (l.map f) + sumI (l.map g)
  | [] => rfl
  | x :: l => by simp only [List.map_cons, sumI_cons]; rw [sumI_addf f g l]; omega
theorem sumI_pick (x : Int) (w : Nat) : ∀ n : Nat, sumI ((List.range n).map fun (k : Nat) => if (w : Int) == (k : Int) then x else 0) = if w < n then x else 0
  | 0 => rfl
  | n + 1 => by
    rw [List.range_succ, List.map_append, List.map_cons, List.map_nil, sumI_app, sumI_pick x w n]
    by_cases h : w < n
    · have e : ((w : Int) == (n : Int)) = false := beq_eq_false_iff_ne.2 (by omega)
      simp only [h, e, show w < n + 1 by omega, if_true, Bool.false_eq_true, if_false]
      omega
    · by_cases q : w = n
      · subst q; simp
      · have e : ((w : Int) == (n : Int)) = false := beq_eq_false_iff_ne.2 (by omega)
        simp only [h, e, show ¬ w < n + 1 by omega, Bool.false_eq_true, if_false]
        omega
theorem ownParts_sum {n : Nat} : ∀ {bs : List Board} {l : List Int}, l.length = bs.length → (∀ b ∈ bs, 0 ≤ b.ow ∧ b.ow < n) → sumI (ownParts n bs l) = sumI l
  | [], [], _, _ => by
    rw [ownParts_zero]
    have := sumI_bound (B := 0) (l := List.replicate n (0 : Int)) fun x hx => by have := List.eq_of_mem_replicate hx; omega
    simp at this
    have h0 : sumI (List.replicate n (0 : Int)) = 0 := by omega
    rw [h0]; rfl
  | [], _ :: _, h, _ => by simp at h
  | _ :: _, [], h, _ => by simp at h
  | b :: bs, x :: l, h, hb => by
    have h1 := hb b List.mem_cons_self
    have ih := ownParts_sum (n := n) (bs := bs) (l := l) (by simpa using h) fun c hc => hb c (List.mem_cons_of_mem _ hc)
    obtain ⟨w, hw⟩ : ∃ w : Nat, b.ow = w := ⟨b.ow.toNat, by omega⟩
    unfold ownParts at ih ⊢
    have e : (fun (k : Nat) => ownSum (k : Int) (b :: bs) (x :: l)) = fun (k : Nat) => (if (w : Int) == (k : Int) then x else 0) + ownSum k bs l := by
      funext k; rw [ownSum_cons, ownOf, hw]
    rw [e, sumI_addf (fun (k : Nat) => if (w : Int) == (k : Int) then x else 0) (fun (k : Nat) => ownSum (k : Int) bs l), ih, sumI_pick, if_pos (by omega), sumI_cons]

theorem qtysO_own {t : Tar} {k : Int} (hk : 0 ≤ k) : ∀ {bs : List Board} {hs : List Int}, hs.length = bs.length → sumI (qtysO t k bs hs) = ownSum k bs (qtys t bs hs)
  | [], [], _ => rfl
  | [], _ :: _, h => by simp at h
  | _ :: _, [], h => by simp at h
  | b :: bs, x :: hs, h => by
    have ih := qtysO_own (t := t) hk (bs := bs) (hs := hs) (by simpa using h)
    have e1 : qtysO t k (b :: bs) (x :: hs) = qOwn t k b x :: qtysO t k bs hs := rfl
    have e2 : qtys t (b :: bs) (x :: hs) = qty t.kind b x :: qtys t bs hs := rfl
    rw [e1, e2, sumI_cons, ownSum_cons, ih]
    congr 1
    unfold qOwn ownOf
    have : decide (k < 0) = false := by simp; omega
    rw [this]
    simp

/-- the parts of owners by which a price is shared -/
def weights (n : Nat) (t : Tar) (bs : List Board) (hs : List Int) : List Int := if sumI (ownParts n bs (qtys t bs hs)) = 0 then ownParts n bs (List.replicate bs.length 1) else ownParts n bs (qtys t bs hs)
def baseL (P : Int) (W : List Int) : List Int := W.map fun w => P * w / sumI W
def restL (P : Int) (W : List Int) : List Int := W.map fun w => P * w % sumI W
def leftN (P : Int) (W : List Int) : Nat := (P - sumI (baseL P W)).toNat

theorem base_rest (P A : Int) (W : List Int) : A * sumI (W.map fun w => P * w / A) + sumI (W.map fun w => P * w % A) = P * sumI W := by
  induction W with
  | nil => simp [sumI]
  | cons w W ih =>
    simp only [List.map_cons, sumI_cons, Int.mul_add]
    have := Int.emod_add_mul_ediv (P * w) A
    omega

theorem left_b {P : Int} {W : List Int} (hP : 0 ≤ P) (hW : ∀ w ∈ W, 0 ≤ w) (hA : 1 ≤ sumI W) : 0 ≤ P - sumI (baseL P W) ∧ P - sumI (baseL P W) < W.length := by
  have e := base_rest P (sumI W) W
  have r := sumI_bound (B := sumI W - 1) (l := W.map fun w => P * w % sumI W) fun x hx => by
    rw [List.mem_map] at hx
    obtain ⟨w, _, rfl⟩ := hx
    have := Int.emod_nonneg (P * w) (show sumI W ≠ 0 by omega)
    have := Int.emod_lt_of_pos (P * w) (show 0 < sumI W by omega)
    omega
  rw [List.length_map] at r
  have e1 : sumI W * (P - sumI (baseL P W)) = sumI (W.map fun w => P * w % sumI W) := by
    rw [Int.mul_sub]
    unfold baseL
    rw [Int.mul_comm (sumI W) P]
    omega
  have hl : W ≠ [] := fun h => by rw [h] at hA; simp [sumI] at hA
  have hlen : 1 ≤ (W.length : Int) := by
    cases W with
    | nil => exact absurd rfl hl
    | cons _ _ => simp; omega
  constructor
  · have : 0 * sumI W ≤ (P - sumI (baseL P W)) * sumI W := by rw [Int.zero_mul, Int.mul_comm]; omega
    exact le_of_mul_le this (by omega)
  · have h2 : (sumI W - 1) * (W.length : Int) < W.length * sumI W := by
      rw [Int.sub_mul, Int.mul_comm (W.length : Int)]; omega
    have : (P - sumI (baseL P W)) * sumI W < W.length * sumI W := by rw [Int.mul_comm]; omega
    exact lt_of_mul_lt this (by omega)

/- WHO GETS WHAT IS LEFT -/
def bump (l : List Int) (i : Nat) : List Int := l.set i (l.getD i 0 + 1)
theorem bump_len (l : List Int) (i : Nat) : (bump l i).length = l.length := by simp [bump]
def argmax (r : List Int) (n : Nat) : Nat := (List.range n).foldl (fun best k => if r.getD k 0 > r.getD best 0 then k else best) 0
def takeRef : Nat → List Int → List Int → List Int
  | 0, out, _ => out
  | c + 1, out, r => takeRef c (bump out (argmax r r.length)) (r.set (argmax r r.length) (-1))
/-- an element sinks to its place -/
def key (L : List (Int × Nat)) (i : Nat) : Int := (L.getD i (0, 0)).1
def swapAt (L : List (Int × Nat)) (j : Nat) : List (Int × Nat) := (L.set (j + 1) (L.getD j (0, 0))).set j (L.getD (j + 1) (0, 0))
def sink : Nat → List (Int × Nat) → List (Int × Nat)
  | 0, L => L
  | j + 1, L => if key L (j + 1) > key L j then sink j (swapAt L j) else L
def sortFrom : Nat → Nat → List (Int × Nat) → List (Int × Nat)
  | 0, _, L => L
  | m + 1, i, L => sortFrom m (i + 1) (sink i L)
def takeProg (c : Nat) (out : List Int) (S : List (Int × Nat)) : List Int := (S.take c).foldl (fun o p => bump o p.2) out


theorem take_three (a b c x y z : Int) (ha : 0 ≤ a) (hb : 0 ≤ b) (hc : 0 ≤ c) (n : Nat) (hn : n < 3) : takeRef n [x, y, z] [a, b, c] = takeProg n [x, y, z] (sortFrom 2 1 [(a, 0), (b, 1), (c, 2)]) := by
  have : n = 0 ∨ n = 1 ∨ n = 2 := by omega
  have a1 : -1 < a := by omega
  have b1 : -1 < b := by omega
  have c1 : -1 < c := by omega
  have a2 : ¬ a < -1 := by omega
  have b2 : ¬ b < -1 := by omega
  have c2 : ¬ c < -1 := by omega
  rcases this with rfl | rfl | rfl
  · rfl
  · by_cases h1 : a < b <;> by_cases h2 : a < c <;> by_cases h3 : b < c <;> first | (exfalso; omega) | simp [takeRef, takeProg, sortFrom, sink, key, swapAt, argmax, bump, List.range_succ, h1, h2, h3, a1, b1, c1, a2, b2, c2]
  · by_cases h1 : a < b <;> by_cases h2 : a < c <;> by_cases h3 : b < c <;> first | (exfalso; omega) | simp [takeRef, takeProg, sortFrom, sink, key, swapAt, argmax, bump, List.range_succ, h1, h2, h3, a1, b1, c1, a2, b2, c2]
theorem take_two (a b x y : Int) (ha : 0 ≤ a) (hb : 0 ≤ b) (n : Nat) (hn : n < 2) : takeRef n [x, y] [a, b] = takeProg n [x, y] (sortFrom 1 1 [(a, 0), (b, 1)]) := by
  have : n = 0 ∨ n = 1 := by omega
  rcases this with rfl | rfl
  · rfl
  · by_cases h1 : a < b <;> simp [takeRef, takeProg, sortFrom, sink, key, swapAt, argmax, bump, List.range_succ, h1]
theorem take_one (a x : Int) (n : Nat) (hn : n < 1) : takeRef n [x] [a] = takeProg n [x] (sortFrom 0 1 [(a, 0)]) := by
  have : n = 0 := by omega
  subst this; rfl

/-- the specification and the program give the coins that are left to the same owners -/
theorem take_same {out r : List Int} (hl : out.length = r.length) (h1 : 1 ≤ r.length) (h3 : r.length ≤ 3) (hr : ∀ x ∈ r, 0 ≤ x) {n : Nat} (hn : n < r.length) : takeRef n out r = takeProg n out (sortFrom (r.length - 1) 1 r.zipIdx) := by
  match r, out, hl with
  | [a], [x], _ => exact take_one a x n hn
  | [a, b], [x, y], _ => exact take_two a b x y (hr a (by simp)) (hr b (by simp)) n hn
  | [a, b, c], [x, y, z], _ => exact take_three a b c x y z (hr a (by simp)) (hr b (by simp)) (hr c (by simp)) n hn
  | _ :: _ :: _ :: _ :: _, _, _ => simp at h3
  | [], _, _ => simp at h1

/-- what each owner pays -/
def sharesL (P : Int) (W : List Int) : List Int := takeRef (leftN P W) (baseL P W) (restL P W)
end Go.Am

/- The abstract machine, part 97: contracts: what is each owner's. -/
namespace Go.Am
open Go Go.Proofs

theorem mk_22_0 : aMakeSlice CC 22 (.int .i64 0) (.int .i64 0) = some (.new (.row [] 1 true) (sliceTo 1 0 0)) := by kernel_rfl
theorem mk_22_1 : aMakeSlice CC 22 (.int .i64 1) (.int .i64 1) = some (.new (.row [.int .i64 0] 1 true) (sliceTo 1 1 1)) := by kernel_rfl
theorem mk_22_2 : aMakeSlice CC 22 (.int .i64 2) (.int .i64 2) = some (.new (.row [.int .i64 0, .int .i64 0] 1 true) (sliceTo 1 2 2)) := by kernel_rfl
theorem mk_22_3 : aMakeSlice CC 22 (.int .i64 3) (.int .i64 3) = some (.new (.row [.int .i64 0, .int .i64 0, .int .i64 0] 1 true) (sliceTo 1 3 3)) := by kernel_rfl
theorem mk_22_4 : aMakeSlice CC 22 (.int .i64 4) (.int .i64 4) = some (.new (.row [.int .i64 0, .int .i64 0, .int .i64 0, .int .i64 0] 1 true) (sliceTo 1 4 4)) := by kernel_rfl
set_option maxRecDepth 100000 in
theorem mk_22 {n : Nat} (hn : n ≤ 4) : aMakeSlice CC 22 (.int .i64 n) (.int .i64 n) = some (.new (.row (List.replicate n (.int .i64 0)) 1 true) (sliceTo 1 n n)) := by
  have hc : n = 0 ∨ n = 1 ∨ n = 2 ∨ n = 3 ∨ n = 4 := by omega
  rcases hc with rfl | rfl | rfl | rfl | rfl
  · exact mk_22_0
  · exact mk_22_1
  · exact mk_22_2
  · exact mk_22_3
  · exact mk_22_4
theorem zeros_flat (n : Nat) : (List.replicate n (0 : Int)).flatMap ints = List.replicate n (.int .i64 0) := by
  induction n with
  | zero => rfl
  | succ n ih => rw [List.replicate_succ, List.flatMap_cons, ih]; rfl
theorem ints_put {xs : List Int} {i : Nat} {x y : Int} (hx : xs[i]? = some x) : write? (xs.flatMap ints) i [.int .i64 y] = some ((xs.set i y).flatMap ints) := by
  have hi := (List.getElem?_eq_some_iff.1 hx).1
  rw [write_one _ _ _ (by rw [flat_len ints_len]; omega)]
  exact congrArg some (by simpa using flat_set ints_len xs i x y 0 (.int .i64 y) hx (by omega) rfl)
theorem ints_at {xs : List Int} {i : Nat} {x : Int} (hx : xs[i]? = some x) : (xs.flatMap ints)[i]? = some (.int .i64 x) := by
  have h := flat_take ints_len xs i x hx
  have hi := (List.getElem?_eq_some_iff.1 hx).1
  have hl := flat_len ints_len xs
  rw [Nat.mul_one] at h hl
  have : ((xs.flatMap ints).drop i)[0]? = some (.int .i64 x) := by
    have := congrArg (·[0]?) h
    simpa [List.getElem?_take, ints] using this
  simpa using this

set_option maxRecDepth 10000 in
set_option maxHeartbeats 2000000 in
theorem parted_119 {h : Heap} (hk : HOK h) (hp : 0 < h.next) {v w : Value} {s : Sheet} {hs : List Int} {m : Nat} {l : List Int} (hv : IsBill h v s hs m) (hw : LS h w l ints 1) (ok : s.ok = true) (hl : l.length = s.boards.length) (hq : ∀ x ∈ l, 0 ≤ x ∧ x ≤ 1000) :
    CW CC 119 [v, w] h fun r h' => SL h.next h' r ((ownParts s.offs.length s.boards l).flatMap ints) 1 s.offs.length ∧ Fr h h' := by
  have hlen := Sheet.ok_len ok
  obtain ⟨a, b, c, d, rfl, hsh, hh⟩ := hv.ex
  obtain ⟨p1, c1, rfl, _⟩ := hsh.offs.open
  obtain ⟨p2, c2, rfl, x2⟩ := hsh.boards.open
  obtain ⟨p3, c3, rfl, _⟩ := hsh.tars.open
  obtain ⟨pd, cd, rfl, _⟩ := hh.open
  obtain ⟨pw, cw, rfl⟩ := hw.len
  refine CW_in Tryz.f119 (by kernel_rfl) (by kernel_rfl) rfl rfl ?_
  simp only [Tryz.f119]
  have f1 : Fr h ((h.alloc (.row [.slice p1 s.offs.length c1, .slice p2 s.boards.length c2, .slice p3 s.tars.length c3, .slice pd hs.length cd, .map (some m)] 0 true)).alloc (.row (List.replicate s.offs.length (.int .i64 0)) 1 true)) := ((Fr.refl hk).alloc _).alloc _
  have g1 : ((h.alloc (.row [.slice p1 s.offs.length c1, .slice p2 s.boards.length c2, .slice p3 s.tars.length c3, .slice pd hs.length cd, .map (some m)] 0 true)).alloc (.row (List.replicate s.offs.length (.int .i64 0)) 1 true)).get (h.next + 1) = some (.row ((ownParts s.offs.length (s.boards.take 0) (l.take 0)).flatMap ints) 1 true) := by
    rw [List.take_zero, List.take_zero, ownParts_zero, zeros_flat]
    exact get_at _ (by simp)
  have r1 : rowAt ((h.alloc (.row [.slice p1 s.offs.length c1, .slice p2 s.boards.length c2, .slice p3 s.tars.length c3, .slice pd hs.length cd, .map (some m)] 0 true)).alloc (.row (List.replicate s.offs.length (.int .i64 0)) 1 true)) h.next = some [.slice p1 s.offs.length c1, .slice p2 s.boards.length c2, .slice p3 s.tars.length c3, .slice pd hs.length cd, .map (some m)] := by
    rw [rowAt_old _ (by simp), rowAt_new]
  simp (maxDischargeDepth := 30) only [AMS, AMH, ↓reduceIte, Nat.reduceLT, Nat.reduceEqDiff, Nat.reduceAdd, Nat.reduceMul, reduceCtorEq, decide_true, decide_false, Nat.reduceLeDiff, Int.reduceNe, Int.reduceEq, ne_eq, not_false_eq_true, and_self, fp_26_0, fp_26_1, fp_72_3, fp_94_0, ix_22, ix_23, ld_22, ld_23, ld_3, ld_72, len_22, len_23, part_3, part_72, size_22, size_23, size_3, size_72, und_22, und_23, und_3, zero_22, zero_23, zero_3, zero_72, hk, mk_22 (by omega : s.offs.length ≤ 4)]
  generalize ((h.alloc (.row [.slice p1 s.offs.length c1, .slice p2 s.boards.length c2, .slice p3 s.tars.length c3, .slice pd hs.length cd, .map (some m)] 0 true)).alloc (.row (List.replicate s.offs.length (.int .i64 0)) 1 true)) = h1 at f1 g1 r1 ⊢
  refine W_loop s.boards.length (fun m' f h' => ∃ i, i ≤ s.boards.length ∧ m' = s.boards.length - i ∧ f 1 = .slice pw l.length cw ∧ f 5 = .slice (some ⟨h.next + 1, 0, some 1⟩) s.offs.length s.offs.length ∧ f 15 = .slice p2 s.boards.length c2 ∧ f 16 = .int .i64 s.boards.length ∧ f 17 = .int .i64 i ∧
      h'.get (h.next + 1) = some (.row ((ownParts s.offs.length (s.boards.take i) (l.take i)).flatMap ints) 1 true) ∧ Fr h h')
    ⟨0, by omega, by omega, by simp [upd_at, argsFn_at], by simp [upd_at], by simp [upd_at], by simp [upd_at], by simp [upd_at], g1, f1⟩ ?_
  clear f1 g1 r1
  rintro m' f h' ⟨i, hi, rfl, e1, e5, e15, e16, e17, g, fr⟩ ih
  have k' := fr.ok
  by_cases hil : i < s.boards.length
  · obtain ⟨B, gB⟩ : ∃ x, s.boards[i]? = some x := ⟨_, List.getElem?_eq_getElem hil⟩
    have hil' : i < l.length := by omega
    obtain ⟨x, gx⟩ : ∃ x, l[i]? = some x := ⟨_, List.getElem?_eq_getElem hil'⟩
    rcases x2 with hx | ⟨b2, o2, sp2, row2, rfl, rr2, x2⟩
    · rw [hx] at hil; simp at hil
    obtain ⟨b4, o4, sp4, row4, rfl, rr4, e4⟩ := hw.cell gx
    have eB : take? row2 (o2 + i * 5) 5 = some B.cells := (x2 _ _ gB).1
    have bok := of_decide_eq_true (Sheet.ok_boards ok B (List.mem_of_getElem? gB))
    obtain ⟨wn, hwn⟩ : ∃ n : Nat, B.ow = n := ⟨B.ow.toNat, by omega⟩
    have wl : wn < s.offs.length := by omega
    have gy := ownParts_get (bs := s.boards.take i) (l := l.take i) wl
    have yb := ownSum_b (k := (wn : Int)) (B := 1000) (by omega) (bs := s.boards.take i) (l := l.take i) fun z hz => hq z (List.mem_of_mem_take hz)
    have hxb := hq x (List.mem_of_getElem? gx)
    have lt4 : ((l.take i).length : Int) ≤ 4 := by rw [List.length_take]; omega
    have step := ownParts_step gB gx hwn wl gy
    generalize ownSum (wn : Int) (s.boards.take i) (l.take i) = y at gy yb step
    have rr2' := fr.row' hk rr2
    have rr4' := fr.row' hk rr4
    have bl : B.cells.length = 5 := rfl
    have ba : allOne B.cells = true := rfl
    have kb4 : B.cells[4]? = some (.int .i64 wn) := by rw [← hwn]; rfl
    simp (maxDischargeDepth := 30) only [AMS, AMH, ↓reduceIte, Nat.reduceLT, Nat.reduceEqDiff, Nat.reduceAdd, Nat.reduceMul, reduceCtorEq, decide_true, decide_false, Nat.reduceLeDiff, Int.reduceNe, Int.reduceEq, ne_eq, not_false_eq_true, and_self, fp_26_0, fp_26_1, fp_72_3, fp_94_0, ix_22, ix_23, ld_22, ld_23, ld_3, ld_72, len_22, len_23, part_3, part_72, size_22, size_23, size_3, size_72, und_22, und_23, und_3, zero_22, zero_23, zero_3, zero_72, k', e1, e5, e15, e16, e17, lt_t hil, hil, rr2', eB, bl, ba]
    have fb : Fr h' ((h'.alloc (.row [.int .i64 0, .int .i64 0, .int .i64 0, .int .i64 0, .int .i64 0] 0 true)).set h'.next (.row B.cells 0 true)) := ((Fr.refl k').alloc _).set (Nat.le_refl _) (by simp) _
    have rb : rowAt ((h'.alloc (.row [.int .i64 0, .int .i64 0, .int .i64 0, .int .i64 0, .int .i64 0] 0 true)).set h'.next (.row B.cells 0 true)) h'.next = some B.cells := rowAt_set_self _ _ _ _ _
    generalize ((h'.alloc (.row [.int .i64 0, .int .i64 0, .int .i64 0, .int .i64 0, .int .i64 0] 0 true)).set h'.next (.row B.cells 0 true)) = H at fb rb ⊢
    have f2 := fr.trans fb
    have gb := fb.get' k' g
    have rgb : rowAt H (h.next + 1) = some ((ownParts s.offs.length (s.boards.take i) (l.take i)).flatMap ints) := by unfold rowAt; rw [gb]; rfl
    have rr4b := fb.row' k' rr4'
    have ya := ints_at gy
    have w1 : IntKind.i64.wrap (y + x) = y + x := wrap64 (by omega) (by omega)
    have put := ints_put (y := y + x) gy
    rw [step] at put
    refine W_draw [(true, 0), (true, 1), (true, 2), (true, 3), (true, 4), (true, 5), (true, 6), (true, 7), (true, 8), (true, 9), (true, 10), (true, 11)] (by kernel_rfl) ?_
    simp (maxDischargeDepth := 30) only [AMS, AMH, ↓reduceIte, Nat.reduceLT, Nat.reduceEqDiff, Nat.reduceAdd, Nat.reduceMul, reduceCtorEq, decide_true, decide_false, Nat.reduceLeDiff, Int.reduceNe, Int.reduceEq, ne_eq, not_false_eq_true, and_self, AMR, fp_26_0, fp_26_1, fp_72_3, fp_94_0, ix_22, ix_23, ld_22, ld_23, ld_3, ld_72, len_22, len_23, part_3, part_72, size_22, size_23, size_3, size_72, und_22, und_23, und_3, zero_22, zero_23, zero_3, zero_72, f2.ok, e1, e5, rb, kb4, wl, Nat.mul_one, rgb, ya, hil', rr4b, e4, w1, gb, put, e15, e16, e17, i_next hil (by omega : s.boards.length ≤ 1000)]
    refine ih (s.boards.length - (i + 1)) _ _ (by omega) ?_
    exact ⟨i + 1, by omega, rfl, by simp [upd_at, e1], by simp [upd_at, e5], by simp [upd_at, e15], by simp [upd_at, e16], by simp [upd_at], Heap.get_set_self _ _ _, f2.set (by omega) (get_lt f2.ok gb) _⟩
  · have : i = s.boards.length := by omega
    subst this
    rw [List.take_of_length_le (Nat.le_refl _), List.take_of_length_le (by omega)] at g
    simp (maxDischargeDepth := 30) only [AMS, AMH, ↓reduceIte, Nat.reduceLT, Nat.reduceEqDiff, Nat.reduceAdd, Nat.reduceMul, reduceCtorEq, decide_true, decide_false, Nat.reduceLeDiff, Int.reduceNe, Int.reduceEq, ne_eq, not_false_eq_true, and_self, fp_26_0, fp_26_1, fp_72_3, fp_94_0, ix_22, ix_23, ld_22, ld_23, ld_3, ld_72, len_22, len_23, part_3, part_72, size_22, size_23, size_3, size_72, und_22, und_23, und_3, zero_22, zero_23, zero_3, zero_72, k', e5, e16, e17, lt_f]
    exact ⟨.inr ⟨h.next + 1, rfl, by omega, by omega, g, by rw [flat_len ints_len, ownParts_len]⟩, fr⟩
end Go.Am
