/- Parts D58, D59 of the abstract machine over this program, joined: what each part says stands at its head. -/
import Derived.Test.YtfnllpibhjikgaaGreatDoorJD37
import Derived.Test.YtfnllpibhjikgaaGreatDoorShelf
import Derived.Laws.StructEq
import Derived.Laws.Small
import Derived.DeepKeys3
set_option linter.unusedSimpArgs false
set_option linter.unusedVariables false
/- The abstract machine, part 58 (daybook seat): the library's functions do what the machine takes them to do. -/
namespace Go.Am
open Go Go.Proofs

theorem digs_eq : ∀ (f n : Nat), n < 10 ^ (f + 1) → digs (f + 1) n = Lib.decDigits n
  | f, n, h => by
    show (match Nat.ble n 9 with | true => [UInt8.ofNat (48 + n)] | false => digs f (n / 10) ++ [UInt8.ofNat (48 + n % 10)]) = _
    rw [Lib.decDigits]
    by_cases h9 : n < 10
    · have : Nat.ble n 9 = true := Nat.ble_eq_true_of_le (by omega)
      rw [this, dif_pos h9]
    · have : Nat.ble n 9 = false := by cases hb : Nat.ble n 9 with | true => exact absurd (Nat.le_of_ble_eq_true hb) (by omega) | false => rfl
      rw [this, dif_neg h9]
      simp only
      cases f with
      | zero => simp at h; omega
      | succ f => rw [digs_eq f (n / 10) (by rw [Nat.pow_succ] at h; omega)]

section
variable {C : Ctx} (hP : C.P = Tryz.prog) {gd : List Oper → Bool} {w0 : World}
include hP

omit hP in
theorem tab_old {w w' : World} {zs : List Int} (h : Lib.TabIs Tryz.prog w "internal/strconv.uint64pow10" .u64 zs) (ho : ∀ b, b < w.heap.size → w'.heap[b]? = w.heap[b]?) : Lib.TabIs Tryz.prog w' "internal/strconv.uint64pow10" .u64 zs := by
  unfold Lib.TabIs World.var? at *
  cases hg : Tryz.prog.globalNamed "internal/strconv.uint64pow10" with
  | none => rw [hg] at h; exact h
  | some g =>
    rw [hg] at h
    simp only [Option.bind_some] at h ⊢
    rcases Nat.lt_or_ge g w.heap.size with q | q
    · rw [ho g q]; exact h
    · rw [Array.getElem?_eq_none q] at h; cases h
theorem itoa_ok (ht : Lib.TabIs Tryz.prog w0 "internal/strconv.uint64pow10" .u64 Lib.pow10Tab) : SpecOK C gd w0 95 itoaSpec := by
  intro μ h w args ARGS res H _ hA hs
  rw [hP]
  unfold itoaSpec at hs
  split at hs
  case h_2 => simp at hs
  rename_i h0 m
  obtain ⟨h1, h2⟩ := guardB_eq hs
  have hm : m < 1000000000 := Nat.le_of_ble_eq_true h1
  simp at h2
  subst h2
  obtain ⟨V, L, hL, hv, hr⟩ := hA.cons_inv
  have := hr.nil_inv
  subst this
  have hV := hv.int_inv
  subst hV
  have hARGS : ARGS = #[.int .i64 (Int.ofNat m)] := Array.ext' (by simpa using hL)
  subst hARGS
  refine (Tryz.strconv_Itoa (Int.ofNat m) (by show (-9223372036854775808 : Int) ≤ (m : Int); omega) (by show (m : Int) ≤ 9223372036854775807; omega) w (tab_old ht H.old)).mono ?_
  rintro e w' ⟨rfl, k, os, rfl⟩
  have hitoa : Lib.itoa (Int.ofNat m) = digs 9 m := by
    rw [digs_eq 8 m (by omega)]
    rfl
  refine ⟨μ, fun _ _ a => a, Fresh.refl _ _, Nat.le_refl _, H.below rfl rfl ?_ ?_, ?_⟩
  · simp [Sort.grow, World.drewN]
  · intro b hb
    show ((w.drewN k).heap ++ os)[b]? = _
    rw [Array.getElem?_append_left (by exact hb)]
    rfl
  · rw [hitoa]
    exact .plain _ rfl

omit hP in
theorem strsOf_eq : ∀ {l : List Value} {xs : List ByteArray}, strsOf l = some xs → l = xs.map Value.string
  | [], xs, h => by
    have : xs = [] := by simpa [strsOf, lrec_nil] using h.symm
    subst this; rfl
  | v :: l, xs, h => by
    have h : obind (strOf v) (fun x => obind (strsOf l) fun r => some (x :: r)) = some xs := h
    obtain ⟨x, hx, h1⟩ := obind_eq h
    obtain ⟨r, hr, h2⟩ := obind_eq h1
    simp at h2; subst h2
    cases v <;> simp [strOf] at hx
    subst hx
    rw [strsOf_eq hr]; rfl

theorem join_ok : SpecOK C gd w0 96 joinSpec := by
  intro μ h w args ARGS res H _ hA hs
  rw [hP]
  unfold joinSpec at hs
  split at hs
  case h_2 => simp at hs
  rename_i h0 p n c s
  obtain ⟨h1, h2⟩ := guardB_eq hs
  obtain ⟨b1, b2⟩ := (Bool.and_eq_true _ _).mp h1
  have b1 := Nat.le_of_ble_eq_true b1
  have b2 := Nat.le_of_ble_eq_true b2
  obtain ⟨cells, hc, h3⟩ := obind_eq h2
  obtain ⟨xs, hx, h4⟩ := obind_eq h3
  obtain ⟨b3, h5⟩ := guardB_eq h4
  have b3 := Nat.le_of_ble_eq_true b3
  simp at h5
  subst h5
  obtain ⟨V, L, hL, hv, hr⟩ := hA.cons_inv
  obtain ⟨S, L', rfl, hs', hr'⟩ := hr.cons_inv
  have := hr'.nil_inv
  subst this
  have hS := hs'.string_inv
  subst hS
  have hARGS : ARGS = #[V, .string s] := Array.ext' (by simpa using hL)
  subst hARGS
  have hce := strsOf_eq hx
  have fin : ∀ {w' : World}, HRel (goodP C gd) w0 μ h w' → CallPost C gd w0 μ h.next (.ret (.string ⟨⟨Lib.join (xs.map (·.data.toList)) s.data.toList⟩⟩) h none) (.returned (.string ⟨(Lib.join (xs.map (·.data.toList)) s.data.toList).toArray⟩)) w' :=
    fun H' => ⟨μ, fun _ _ a => a, Fresh.refl _ _, Nat.le_refl _, H', .plain _ rfl⟩
  have nothing : n = 0 → ∀ a cc, V = .slice a 0 cc → Calls Tryz.prog 96 #[V, .string s] w (CallPost C gd w0 μ h.next (.ret (.string ⟨⟨Lib.join (xs.map (·.data.toList)) s.data.toList⟩⟩) h none)) := by
    rintro rfl a cc rfl
    have hz : cells = [] := by
      cases p <;> simp [sliceCells] at hc <;> first | exact hc | exact hc.symm
    rw [hz] at hce
    have hxs : xs = [] := by
      cases xs with
      | nil => rfl
      | cons x l => simp at hce
    subst hxs
    refine (Tryz.strings_Join_none a cc s w).mono ?_
    rintro e w' ⟨rfl, rfl⟩
    exact fin H
  cases p with
  | none =>
    have hV := hv.nilslice_inv
    cases n with
    | zero => exact nothing rfl _ _ hV
    | succ n => simp [sliceCells] at hc
  | some a =>
    obtain ⟨A, CC', rfl, hcc, hnc, hsl⟩ := hv.slice_inv
    cases n with
    | zero => exact nothing rfl _ _ rfl
    | succ n =>
      simp only [sliceCells] at hc
      obtain ⟨row, hrow, ht⟩ := obind_eq hc
      obtain ⟨e1, e2⟩ := take?_eq ht
      rcases hsl with ⟨_, hz⟩ | ⟨_, e, he, hz⟩
      · omega
      rcases hz with ⟨s1, s2, s3, _⟩ | hz
      case inr => omega
      have hlen : xs.length = n + 1 := by
        have := congrArg List.length hce
        rw [e2] at this
        simp at this
        omega
      obtain ⟨Cr, el, fz, r1, _⟩ := H.row he hrow
      have hcells : ∀ (j : Nat) x, xs[j]? = some x → w.cell? ⟨e.blk, (e.base + a.off) + j, none⟩ = some (.string x) := by
        intro j x hj
        have hj' : cells[j]? = some (.string x) := by rw [hce, List.getElem?_map, hj]; rfl
        have : row[a.off + j]? = some (.string x) := by
          rw [e1, List.getElem?_take] at hj'
          split at hj'
          · rwa [List.getElem?_drop] at hj'
          · simp at hj'
        obtain ⟨V, hV, hvr⟩ := H.cell he hrow this
        rw [hvr.string_inv] at hV
        rw [Nat.add_assoc]; exact hV
      have hA : A = ⟨e.blk, e.base + a.off, none⟩ := by
        obtain ⟨x, y, z⟩ := A
        simp only at s1 s2 s3
        rw [s1, s2, s3]
      subst hA
      have := Tryz.strings_Join e.blk (e.base + a.off) CC' xs s w hcells (Array.getElem?_eq_some_iff.1 r1).1 (by omega) (by omega) b3
      rw [hlen] at this
      refine this.mono ?_
      rintro e w' ⟨rfl, hb⟩
      exact fin (H.below hb.os hb.output hb.size hb.block)

theorem split_ok (hm : ∃ m, w0.cell? ⟨0, 0, none⟩ = some (.int .i64 m)) : SpecOK C gd w0 97 splitSpec := by
  intro μ h w args ARGS res H _ hA hs
  rw [hP]
  unfold splitSpec at hs
  split at hs
  case h_2 => simp at hs
  rename_i h0 s p
  obtain ⟨h1, h2⟩ := guardB_eq hs
  obtain ⟨b1, b2⟩ := (Bool.and_eq_true _ _).mp h1
  have b1 := Nat.le_of_ble_eq_true b1
  have b2 := Nat.le_of_ble_eq_true b2
  simp at h2
  subst h2
  obtain ⟨V, L, hL, hv, hr⟩ := hA.cons_inv
  obtain ⟨S, L', rfl, hs', hr'⟩ := hr.cons_inv
  have := hr'.nil_inv
  subst this
  have hV := hv.string_inv
  subst hV
  have hS := hs'.string_inv
  subst hS
  have hARGS : ARGS = #[.string s, .string p] := Array.ext' (by simpa using hL)
  subst hARGS
  obtain ⟨m, hm⟩ := hm
  have hm' : w.cell? ⟨0, 0, none⟩ = some (.int .i64 m) := by
    have h1 : 0 < w0.heap.size := by
      unfold World.cell? at hm
      rcases Nat.lt_or_ge 0 w0.heap.size with q | q
      · exact q
      · simp [Array.getElem?_eq_none q] at hm
    have := H.old 0 h1
    unfold World.cell? at hm ⊢
    rw [this]; exact hm
  refine (Tryz.strings_Split s p m w (by omega) hm' b1).mono ?_
  rintro e w' ⟨rfl, rfl⟩
  have hf := H.fresh
  have hpos := H.pos
  have hlen : ((Lib.splitB p 0 (Lib.countB s p) s).map Value.string).length = Lib.countB s p + 1 := by rw [List.length_map, Lib.splitB_all p b1 0 _ s rfl]
  have hvr : VRels μ ((Lib.splitB p 0 (Lib.countB s p) s).map Value.string) ((Lib.splitB p 0 (Lib.countB s p) s).map Value.string) := .map fun _ _ => .plain _ rfl
  generalize ((Lib.splitB p 0 (Lib.countB s p) s).map Value.string) = cs at hlen hvr
  have H1 := (H.allocA (.row cs 1 true)).grew cs.length 1 hf (by omega) (by simp) (Heap.get_alloc_self _ _) (Grew.alloc w (.cells cs.toArray 9)) (newRow_rel hvr hf 9 1 H.size)
  refine ⟨_, Mu.le_upd _ hf, Fresh.upd _ _ (Nat.le_refl _), by simp, H1, ?_⟩
  exact sliceTo_rel h.next ⟨w.heap.size, 0, cs.length, 1⟩ rfl (by omega) _ _ _ (Nat.le_refl _) (Nat.le_refl _) (by simp [hlen])

omit hP in
theorem idxB_eq (c : UInt8) : ∀ (l : List UInt8) (k : Nat), idxB c.toNat l k = (if Lib.indexByte l c = -1 then (-1 : Int) else Lib.indexByte l c + (k : Int)) ∧ -1 ≤ Lib.indexByte l c := by
  intro l
  induction l with
  | nil => intro k; exact ⟨by simp [idxB, lrec_nil, Lib.indexByte], by simp [Lib.indexByte]⟩
  | cons b l ih =>
    intro k
    show (match Nat.beq b.toNat c.toNat with | true => (k : Int) | false => idxB c.toNat l (k + 1)) = _ ∧ _
    obtain ⟨h1, h2⟩ := ih (k + 1)
    by_cases hbc : b = c
    · subst hbc
      simp [Lib.indexByte]
    · have hn : Nat.beq b.toNat c.toNat = false := by
        cases hb : Nat.beq b.toNat c.toNat with
        | true => exact absurd (UInt8.toNat_inj.1 (Nat.eq_of_beq_eq_true hb)) hbc
        | false => rfl
      rw [hn]
      simp only [h1]
      have hb' : (b == c) = false := by simpa using hbc
      have e : Lib.indexByte (b :: l) c = if (b == c) = true then 0 else if (Lib.indexByte l c == -1) = true then -1 else Lib.indexByte l c + 1 := rfl
      rw [e, hb']
      by_cases hm : Lib.indexByte l c = -1
      · rw [hm]; simp
      · have hm' : (Lib.indexByte l c == -1) = false := by simpa using hm
        simp only [hm', hm, if_false, Bool.false_eq_true]
        rw [if_neg (by omega)]
        constructor
        · rw [Int.natCast_succ]; omega
        · omega

theorem index_ok : SpecOK C gd w0 84 indexByteSpec := by
  intro μ h w args ARGS res H _ hA hs
  rw [hP]
  unfold indexByteSpec at hs
  split at hs
  case h_2 => simp at hs
  rename_i h0 s c
  obtain ⟨h1, h2⟩ := guardB_eq hs
  have h1 := Nat.le_of_ble_eq_true h1
  simp at h2
  subst h2
  obtain ⟨V, L, hL, hv, hr⟩ := hA.cons_inv
  obtain ⟨S, L', rfl, hs', hr'⟩ := hr.cons_inv
  have := hr'.nil_inv
  subst this
  have hV := hv.string_inv
  subst hV
  have hS := hs'.int_inv
  subst hS
  have hARGS : ARGS = #[.string s, .int .u8 (Int.ofNat c)] := Array.ext' (by simpa using hL)
  subst hARGS
  refine (Tryz.strings_IndexByte s (Int.ofNat c) w).mono ?_
  rintro e w' ⟨rfl, rfl⟩
  refine ⟨μ, fun _ _ a => a, Fresh.refl _ _, Nat.le_refl _, H, ?_⟩
  have hc : (Int.ofNat c).toNat.toUInt8.toNat = c := by
    show (UInt8.ofNat c).toNat = c
    rw [UInt8.toNat_ofNat']; omega
  have := (idxB_eq (Int.ofNat c).toNat.toUInt8 s.data.toList 0)
  rw [hc] at this
  rw [this.1]
  have : (if Lib.indexByte s.data.toList (Int.ofNat c).toNat.toUInt8 = -1 then -1 else Lib.indexByte s.data.toList (Int.ofNat c).toNat.toUInt8 + ((0 : Nat) : Int)) = Lib.indexByte s.data.toList (Int.ofNat c).toNat.toUInt8 := by
    split <;> simp_all
  rw [this]
  exact .plain _ rfl
end
end Go.Am

/- The abstract machine, part 59 (daybook seat): equality of the struct types that the program compares. -/
namespace Go.Am
open Go Go.Proofs

/-- fields compared one by one, by type and offset -/
def eqF (d : Nat) (xs ys : Array Value) : List (TypeId × Nat) → Sem Bool
  | [] => pure true
  | (t, o) :: fs => do
    let a ← part t xs o
    let b ← part t ys o
    let r ← Op.equalIn d t a b
    if (!r) = true then pure false else eqF d xs ys fs
theorem eqFields_eq (d : Nat) (xs ys : Array Value) : ∀ fs : List Field, fs.all (fun f => f.name != "_") = true → Op.eqFields d xs ys fs = eqF d xs ys (fs.map fun f => (f.type, f.offset))
  | [], _ => rfl
  | f :: fs, h => by
    rw [List.all_cons, Bool.and_eq_true] at h
    have hn : f.name ≠ "_" := by simpa using h.1
    rw [Op.eqFields, if_pos hn, List.map_cons, eqF, eqFields_eq d xs ys fs h.2]

section
variable {P : Program} {w : World} {d : Nat}
theorem eqF_cons {t : TypeId} {o : Nat} {fs : List (TypeId × Nat)} {xs ys : Array Value} {a b : Value} {r : Bool} (ha : (part t xs o).run P w = .ok a w) (hb : (part t ys o).run P w = .ok b w) (hr : (Op.equalIn d t a b).run P w = .ok r w) :
    (eqF d xs ys ((t, o) :: fs)).run P w = if r = true then (eqF d xs ys fs).run P w else .ok false w := by
  simp only [eqF, Sem.run_bind, ha, hb, hr, Result.andThen_ok]
  cases r <;> simp
theorem eqF_nil {xs ys : Array Value} : (eqF d xs ys []).run P w = .ok true w := rfl
theorem eq_int {t : TypeId} {k : IntKind} (hu : P.underlying t = some (.int k)) (q : IntKind) (a b : Int) : (Op.equalIn (d + 1) t (.int q a) (.int q b)).run P w = .ok (a == b) w := by
  simp [Op.equalIn, run_underlying hu]
theorem part_scalar {t : TypeId} {k : TypeDesc} (hu : P.underlying t = some k) (hk : aggDesc k = false) {xs : Array Value} {o : Nat} {v : Value} (hv : xs[o]? = some v) : (part t xs o).run P w = .ok v w := by
  have : (isAgg t).run P w = .ok false w := by
    unfold isAgg; simp only [Sem.run_bind, run_underlying hu, Result.andThen_ok]
    cases k <;> first | rfl | (simp [aggDesc] at hk)
  unfold part
  simp [this, hv]
theorem part_struct {t : TypeId} {fs : Array Field} {i : TypeInfo} (hu : P.underlying t = some (.struct fs)) (hi : P.info? t = some i) (xs : Array Value) (o : Nat) : (part t xs o).run P w = .ok (.agg (xs.extract o (o + P.cellsOf t))) w := by
  simp [part, isAgg, run_underlying hu, run_sizeOf w hi]
theorem eq_struct {t : TypeId} {fs : List (TypeId × Nat)} {xs ys : Array Value} (hu : P.underlying t = some (.struct (P.fieldsOf t))) (hp : P.stoodInHeld t = false) (hn : (P.fieldsOf t).toList.all (fun f => f.name != "_") = true) (hf : ((P.fieldsOf t).toList.map fun f => (f.type, f.offset)) = fs) :
    (Op.equalIn (d + 1) t (.agg xs) (.agg ys)).run P w = (eqF d xs ys fs).run P w := by
  rw [run_equalIn_struct w d t xs ys hu hp, eqFields_eq d xs ys _ hn, hf]
end

theorem and_or {a b : Int} {r : Bool} {X : Result Bool} {w : World} (h1 : a = b → X = .ok r w) (h2 : ¬ a = b → r = false) : (if (a == b) = true then X else .ok false w) = .ok r w := by
  by_cases h : a = b
  · rw [if_pos (by simpa using h)]; exact h1 h
  · rw [if_neg (by simpa using h), h2 h]
theorem and_orB {a b : Bool} {r : Bool} {X : Result Bool} {w : World} (h1 : a = b → X = .ok r w) (h2 : ¬ a = b → r = false) : (if (a == b) = true then X else .ok false w) = .ok r w := by
  by_cases h : a = b
  · rw [if_pos (by simpa using h)]; exact h1 h
  · rw [if_neg (by simpa using h), h2 h]

/-- cells of a kind -/
theorem like_cons {z v : Value} {l m : List Value} (h : likeAll (z :: l) m = true) : ∃ y r, m = y :: r ∧ sameKind z y = true ∧ likeAll l r = true := by
  cases m with
  | nil => simp [likeAll, lrec_cons] at h
  | cons y r =>
    have h : (match sameKind z y with | true => likeAll l r | false => false) = true := h
    cases hk : sameKind z y with
    | false => rw [hk] at h; simp at h
    | true => rw [hk] at h; exact ⟨y, r, rfl, hk, h⟩
theorem like_int {k : IntKind} {n : Int} {l m : List Value} (h : likeAll (.int k n :: l) m = true) : ∃ a r, m = .int k a :: r ∧ likeAll l r = true := by
  obtain ⟨y, r, e, h1, h2⟩ := like_cons (v := .int k n) h
  cases y <;> simp [sameKind] at h1
  subst h1
  exact ⟨_, r, e, h2⟩
theorem like_bool {b : Bool} {l m : List Value} (h : likeAll (.bool b :: l) m = true) : ∃ a r, m = .bool a :: r ∧ likeAll l r = true := by
  obtain ⟨y, r, e, h1, h2⟩ := like_cons (v := .bool b) h
  cases y <;> simp [sameKind] at h1
  exact ⟨_, r, e, h2⟩
theorem like_nil {m : List Value} (h : likeAll [] m = true) : m = [] := by
  cases m with
  | nil => rfl
  | cons y r => simp [likeAll, lrec_nil] at h
theorem arr_of {xs : Array Value} {l : List Value} (h : xs.toList = l) : xs = ⟨l⟩ := by rw [← h]

/-- what the cells' equality says, an integer ahead -/
theorem ce_int {k : IntKind} {a b : Int} {l m : List Value} {r : Bool} (h : cellsEq (.int k a :: l) (.int k b :: m) = some r) : (a = b → cellsEq l m = some r) ∧ (¬ a = b → r = false) := by
  have h : (match cellEq (.int k a) (.int k b) with | some true => cellsEq l m | some false => some false | none => none) = some r := h
  simp only [cellEq, if_true] at h
  constructor
  · rintro rfl; simpa using h
  · intro hn
    have : (a == b) = false := by simpa using hn
    rw [this] at h; simpa using h.symm
theorem ce_bool {a b : Bool} {l m : List Value} {r : Bool} (h : cellsEq (.bool a :: l) (.bool b :: m) = some r) : (a = b → cellsEq l m = some r) ∧ (¬ a = b → r = false) := by
  have h : (match cellEq (.bool a) (.bool b) with | some true => cellsEq l m | some false => some false | none => none) = some r := h
  simp only [cellEq] at h
  constructor
  · rintro rfl; simpa using h
  · intro hn
    have : (a == b) = false := by simpa using hn
    rw [this] at h; simpa using h.symm
theorem ce_nil {r : Bool} (h : cellsEq [] [] = some r) : r = true := by
  have : some true = some r := h
  simpa using this.symm

theorem key_scalar {P : Program} {w : World} {t : TypeId} {k : TypeDesc} (hu : P.underlying t = some k) (hk : (match k with | .int _ => true | .bool => true | .string => true | _ => false) = true) {v : Value} (hv : basic v = true) (em : Bool) (d : Nat) : (Instr.checkKey em (d + 1) t v).run P w = .ok () w := by
  rw [Instr.checkKey]
  simp only [Sem.run_bind, run_underlying hu, Result.andThen_ok]
  cases k <;> first | (simp at hk; done) | (cases v <;> first | rfl | (simp [basic] at hv; done))
theorem key_struct {P : Program} {w : World} {t : TypeId} {fs : List (TypeId × Nat)} {xs : Array Value} {em : Bool} {d : Nat} (hu : P.underlying t = some (.struct (P.fieldsOf t))) (hn : (P.fieldsOf t).toList.all (fun f => f.name != "_") = true) (hf : ((P.fieldsOf t).toList.map fun f => (f.type, f.offset)) = fs)
    (h : ∀ p ∈ fs, ∃ a, (part p.1 xs p.2).run P w = .ok a w ∧ (Instr.checkKey em d p.1 a).run P w = .ok () w) : (Instr.checkKey em (d + 1) t (.agg xs)).run P w = .ok () w := by
  rw [Instr.checkKey]
  simp only [Sem.run_bind, run_underlying hu, Result.andThen_ok]
  rw [← Array.forIn_toList]
  have each : ∀ f ∈ (P.fieldsOf t).toList, f.name ≠ "_" ∧ ∃ a, (part f.type xs f.offset).run P w = .ok a w ∧ (Instr.checkKey em d f.type a).run P w = .ok () w := fun f hf' => by
    refine ⟨by simpa using List.all_eq_true.1 hn f hf', h (f.type, f.offset) ?_⟩
    rw [← hf]; exact List.mem_map.2 ⟨f, hf', rfl⟩
  clear hf hn hu h
  generalize (P.fieldsOf t).toList = L at each
  induction L with
  | nil => simp
  | cons f L ih =>
    obtain ⟨hn, a, p1, p2⟩ := each f (by simp)
    simp only [List.forIn_cons, Sem.run_bind, hn, ne_eq, not_false_eq_true, if_true, Result.andThen_ok, p1, p2, Sem.run_pure]
    exact ih (fun y hy => each y (by simp [hy]))


section
variable {t : TypeId} (hu : Tryz.prog.underlying t = some (.struct (Tryz.prog.fieldsOf t))) (hp : Tryz.prog.stoodInHeld t = false) (hn : (Tryz.prog.fieldsOf t).toList.all (fun f => f.name != "_") = true) (hf : ((Tryz.prog.fieldsOf t).toList.map fun f => (f.type, f.offset)) = [(3, 0), (3, 1)])
include hu hn hf
include hp in
theorem eq_two (d : Nat) (w : World) {a b a' b' : Int} {r : Bool} (h : cellsEq [.int .i64 a, .int .i64 b] [.int .i64 a', .int .i64 b'] = some r) :
    (Op.equalIn (d + 2) t (.agg ⟨[.int .i64 a, .int .i64 b]⟩) (.agg ⟨[.int .i64 a', .int .i64 b']⟩)).run Tryz.prog w = .ok r w := by
  rw [eq_struct hu hp hn hf]
  rw [eqF_cons (part_scalar Tryz.underlying3 rfl rfl) (part_scalar Tryz.underlying3 rfl rfl) (eq_int Tryz.underlying3 _ _ _)]
  refine and_or (fun he => ?_) (ce_int h).2
  have h := (ce_int h).1 he
  rw [eqF_cons (part_scalar Tryz.underlying3 rfl rfl) (part_scalar Tryz.underlying3 rfl rfl) (eq_int Tryz.underlying3 _ _ _)]
  refine and_or (fun he => ?_) (ce_int h).2
  have h := (ce_int h).1 he
  rw [ce_nil h]; rfl
theorem key_two (em : Bool) (d : Nat) (w : World) (a b : Int) : (Instr.checkKey em (d + 2) t (.agg ⟨[.int .i64 a, .int .i64 b]⟩)).run Tryz.prog w = .ok () w := by
  refine key_struct hu hn hf fun p hp => ?_
  simp only [List.mem_cons, List.not_mem_nil, or_false] at hp
  rcases hp with rfl | rfl
  · exact ⟨_, part_scalar Tryz.underlying3 rfl rfl, key_scalar Tryz.underlying3 rfl rfl _ _⟩
  · exact ⟨_, part_scalar Tryz.underlying3 rfl rfl, key_scalar Tryz.underlying3 rfl rfl _ _⟩
include hp in
theorem spec_two (hg : Tryz.prog.eqGuardType Tryz.prog.depth t = false) : EqSpec Tryz.prog t [.int .i64 0, .int .i64 0] where
  eq := by
    intro xs ys r hx hy h w
    obtain ⟨a, l1, e, hx1⟩ := like_int hx
    obtain ⟨b, l2, qhx2, hx2⟩ := like_int hx1
    have qn := like_nil hx2
    subst qn
    subst qhx2
    rw [e] at hy
    obtain ⟨a', l1, e', hy1⟩ := like_int hy
    obtain ⟨b', l2, qhy2, hy2⟩ := like_int hy1
    have qn := like_nil hy2
    subst qn
    subst qhy2
    rw [e, e'] at h
    rw [arr_of e, arr_of e']
    exact eq_two hu hp hn hf 9998 w h
  guard := hg
  key := by
    intro cs n _ _ hx em w
    obtain ⟨a, l1, e, hx1⟩ := like_int hx
    obtain ⟨b, l2, qhx2, hx2⟩ := like_int hx1
    have qn := like_nil hx2
    subst qn
    subst qhx2
    rw [arr_of e]
    exact key_two hu hn hf em 9998 w a b
end
theorem spec_letter_pair : EqSpec Tryz.prog 333 [.int .i64 0, .int .i64 0] := spec_two (by kernel_rfl) (by kernel_rfl) (by kernel_rfl) (by kernel_rfl) (by kernel_rfl)
theorem spec_bench_end : EqSpec Tryz.prog 356 [.int .i64 0, .int .i64 0] := spec_two (by kernel_rfl) (by kernel_rfl) (by kernel_rfl) (by kernel_rfl) (by kernel_rfl)
theorem spec_tint_spot : EqSpec Tryz.prog 419 [.int .i64 0, .int .i64 0] := spec_two (by kernel_rfl) (by kernel_rfl) (by kernel_rfl) (by kernel_rfl) (by kernel_rfl)
theorem spec_coat_step : EqSpec Tryz.prog 429 [.int .i64 0, .int .i64 0] := spec_two (by kernel_rfl) (by kernel_rfl) (by kernel_rfl) (by kernel_rfl) (by kernel_rfl)
theorem eq41 (d : Nat) (w : World) {a b c e a' b' c' e' : Int} {f f' : Bool} {r : Bool} (h : cellsEq [.int .i64 a, .int .i64 b, .int .i64 c, .int .i64 e, .bool f] [.int .i64 a', .int .i64 b', .int .i64 c', .int .i64 e', .bool f'] = some r) :
    (Op.equalIn (d + 2) 179 (.agg ⟨[.int .i64 a, .int .i64 b, .int .i64 c, .int .i64 e, .bool f]⟩) (.agg ⟨[.int .i64 a', .int .i64 b', .int .i64 c', .int .i64 e', .bool f']⟩)).run Tryz.prog w = .ok r w := by
  rw [eq_struct (fs := [(176, 0), (3, 1), (3, 2), (177, 3), (4, 4)]) (by kernel_rfl) (by kernel_rfl) (by kernel_rfl) (by kernel_rfl)]
  rw [eqF_cons (part_scalar Tryz.underlying176 rfl rfl) (part_scalar Tryz.underlying176 rfl rfl) (eq_int Tryz.underlying176 _ _ _)]
  refine and_or (fun he => ?_) (ce_int h).2
  have h := (ce_int h).1 he
  rw [eqF_cons (part_scalar Tryz.underlying3 rfl rfl) (part_scalar Tryz.underlying3 rfl rfl) (eq_int Tryz.underlying3 _ _ _)]
  refine and_or (fun he => ?_) (ce_int h).2
  have h := (ce_int h).1 he
  rw [eqF_cons (part_scalar Tryz.underlying3 rfl rfl) (part_scalar Tryz.underlying3 rfl rfl) (eq_int Tryz.underlying3 _ _ _)]
  refine and_or (fun he => ?_) (ce_int h).2
  have h := (ce_int h).1 he
  rw [eqF_cons (part_scalar Tryz.underlying177 rfl rfl) (part_scalar Tryz.underlying177 rfl rfl) (eq_int Tryz.underlying177 _ _ _)]
  refine and_or (fun he => ?_) (ce_int h).2
  have h := (ce_int h).1 he
  rw [eqF_cons (part_scalar Tryz.underlying4 rfl rfl) (part_scalar Tryz.underlying4 rfl rfl) (run_equalIn_bool w _ _ _ _ Tryz.underlying4)]
  refine and_orB (fun he => ?_) (ce_bool h).2
  have h := (ce_bool h).1 he
  rw [ce_nil h]; rfl
theorem key41 (em : Bool) (d : Nat) (w : World) (a b c e : Int) (f : Bool) : (Instr.checkKey em (d + 2) 179 (.agg ⟨[.int .i64 a, .int .i64 b, .int .i64 c, .int .i64 e, .bool f]⟩)).run Tryz.prog w = .ok () w := by
  refine key_struct (fs := [(176, 0), (3, 1), (3, 2), (177, 3), (4, 4)]) (by kernel_rfl) (by kernel_rfl) (by kernel_rfl) fun p hp => ?_
  simp only [List.mem_cons, List.not_mem_nil, or_false] at hp
  rcases hp with rfl | rfl | rfl | rfl | rfl
  · exact ⟨_, part_scalar Tryz.underlying176 rfl rfl, key_scalar Tryz.underlying176 rfl rfl _ _⟩
  · exact ⟨_, part_scalar Tryz.underlying3 rfl rfl, key_scalar Tryz.underlying3 rfl rfl _ _⟩
  · exact ⟨_, part_scalar Tryz.underlying3 rfl rfl, key_scalar Tryz.underlying3 rfl rfl _ _⟩
  · exact ⟨_, part_scalar Tryz.underlying177 rfl rfl, key_scalar Tryz.underlying177 rfl rfl _ _⟩
  · exact ⟨_, part_scalar Tryz.underlying4 rfl rfl, key_scalar Tryz.underlying4 rfl rfl _ _⟩
theorem ce_split {l m l' m' : List Value} {r : Bool} (hl : l.length = l'.length) (h : cellsEq (l ++ m) (l' ++ m') = some r) : ∃ r1, cellsEq l l' = some r1 ∧ (r1 = true → cellsEq m m' = some r) ∧ (r1 = false → r = false) := by
  induction l generalizing l' with
  | nil =>
    have : l' = [] := List.eq_nil_of_length_eq_zero hl.symm
    subst this
    exact ⟨true, rfl, fun _ => h, fun h => by simp at h⟩
  | cons x l ih =>
    cases l' with
    | nil => simp at hl
    | cons y l' =>
      have h : (match cellEq x y with | some true => cellsEq (l ++ m) (l' ++ m') | some false => some false | none => none) = some r := h
      have e : cellsEq (x :: l) (y :: l') = (match cellEq x y with | some true => cellsEq l l' | some false => some false | none => none) := rfl
      cases hc : cellEq x y with
      | none => rw [hc] at h; simp at h
      | some q =>
        rw [hc] at h
        rw [e, hc]
        cases q with
        | false => simp at h; exact ⟨false, rfl, fun h => by simp at h, fun _ => h⟩
        | true => exact ih (by simpa using hl) h

/-- the run of a nested struct, then the rest -/
theorem nest {r1 r : Bool} {X : Result Bool} {w : World} (h1 : r1 = true → X = .ok r w) (h2 : r1 = false → r = false) : (if r1 = true then X else .ok false w) = .ok r w := by
  cases r1
  · rw [if_neg (by simp), h2 rfl]
  · rw [if_pos rfl]; exact h1 rfl

theorem eq154 (d : Nat) (w : World) {a b c e a' b' c' e' q q' : Int} {f f' : Bool} {r : Bool} (h : cellsEq [.int .i64 a, .int .i64 b, .int .i64 c, .int .i64 e, .bool f, .int .i64 q] [.int .i64 a', .int .i64 b', .int .i64 c', .int .i64 e', .bool f', .int .i64 q'] = some r) :
    (Op.equalIn (d + 3) 451 (.agg ⟨[.int .i64 a, .int .i64 b, .int .i64 c, .int .i64 e, .bool f, .int .i64 q]⟩) (.agg ⟨[.int .i64 a', .int .i64 b', .int .i64 c', .int .i64 e', .bool f', .int .i64 q']⟩)).run Tryz.prog w = .ok r w := by
  rw [eq_struct (fs := [(179, 0), (3, 5)]) (by kernel_rfl) (by kernel_rfl) (by kernel_rfl) (by kernel_rfl)]
  obtain ⟨r1, h1, h2, h3⟩ := ce_split (l := [.int .i64 a, .int .i64 b, .int .i64 c, .int .i64 e, .bool f]) (m := [.int .i64 q]) (l' := [.int .i64 a', .int .i64 b', .int .i64 c', .int .i64 e', .bool f']) (m' := [.int .i64 q']) rfl h
  rw [eqF_cons (a := .agg ⟨[.int .i64 a, .int .i64 b, .int .i64 c, .int .i64 e, .bool f]⟩) (b := .agg ⟨[.int .i64 a', .int .i64 b', .int .i64 c', .int .i64 e', .bool f']⟩) (by kernel_rfl) (by kernel_rfl) (eq41 d w h1)]
  refine nest (fun he => ?_) h3
  have h := h2 he
  rw [eqF_cons (part_scalar Tryz.underlying3 rfl rfl) (part_scalar Tryz.underlying3 rfl rfl) (eq_int Tryz.underlying3 _ _ _)]
  refine and_or (fun he => ?_) (ce_int h).2
  have h := (ce_int h).1 he
  rw [ce_nil h]; rfl
theorem key154 (em : Bool) (d : Nat) (w : World) (a b c e : Int) (f : Bool) (q : Int) : (Instr.checkKey em (d + 3) 451 (.agg ⟨[.int .i64 a, .int .i64 b, .int .i64 c, .int .i64 e, .bool f, .int .i64 q]⟩)).run Tryz.prog w = .ok () w := by
  refine key_struct (fs := [(179, 0), (3, 5)]) (by kernel_rfl) (by kernel_rfl) (by kernel_rfl) fun p hp => ?_
  simp only [List.mem_cons, List.not_mem_nil, or_false] at hp
  rcases hp with rfl | rfl
  · exact ⟨.agg ⟨[.int .i64 a, .int .i64 b, .int .i64 c, .int .i64 e, .bool f]⟩, by kernel_rfl, key41 em d w a b c e f⟩
  · exact ⟨_, part_scalar Tryz.underlying3 rfl rfl, key_scalar Tryz.underlying3 rfl rfl _ _⟩
theorem spec154 : EqSpec Tryz.prog 451 [.int .i64 0, .int .i64 0, .int .i64 0, .int .i64 0, .bool false, .int .i64 0] where
  eq := by
    intro xs ys r hx hy h w
    obtain ⟨a, l1, e, hx1⟩ := like_int hx
    obtain ⟨b, l2, qhx2, hx2⟩ := like_int hx1
    obtain ⟨c, l3, qhx3, hx3⟩ := like_int hx2
    obtain ⟨d, l4, qhx4, hx4⟩ := like_int hx3
    obtain ⟨f, l5, qhx5, hx5⟩ := like_bool hx4
    obtain ⟨q, l6, qhx6, hx6⟩ := like_int hx5
    have qn := like_nil hx6
    subst qn
    subst qhx6
    subst qhx5
    subst qhx4
    subst qhx3
    subst qhx2
    rw [e] at hy
    obtain ⟨a', l1, e', hy1⟩ := like_int hy
    obtain ⟨b', l2, qhy2, hy2⟩ := like_int hy1
    obtain ⟨c', l3, qhy3, hy3⟩ := like_int hy2
    obtain ⟨d', l4, qhy4, hy4⟩ := like_int hy3
    obtain ⟨f', l5, qhy5, hy5⟩ := like_bool hy4
    obtain ⟨q', l6, qhy6, hy6⟩ := like_int hy5
    have qn := like_nil hy6
    subst qn
    subst qhy6
    subst qhy5
    subst qhy4
    subst qhy3
    subst qhy2
    rw [e, e'] at h
    rw [arr_of e, arr_of e']
    exact eq154 9997 w h
  guard := by kernel_rfl
  key := by
    intro cs n _ _ hx em w
    obtain ⟨a, l1, e, hx1⟩ := like_int hx
    obtain ⟨b, l2, qhx2, hx2⟩ := like_int hx1
    obtain ⟨c, l3, qhx3, hx3⟩ := like_int hx2
    obtain ⟨d, l4, qhx4, hx4⟩ := like_int hx3
    obtain ⟨f, l5, qhx5, hx5⟩ := like_bool hx4
    obtain ⟨q, l6, qhx6, hx6⟩ := like_int hx5
    have qn := like_nil hx6
    subst qn
    subst qhx6
    subst qhx5
    subst qhx4
    subst qhx3
    subst qhx2
    rw [arr_of e]
    exact key154 em 9997 w a b c d f q

theorem all_loop {P : Program} {w : World} {α : Type} (c : α → Bool) (f : α → (Option Bool × PUnit) → Sem (ForInStep (Option Bool × PUnit))) : ∀ (L : List α), (∀ i ∈ L, (f i (none, ())).run P w = .ok (if c i = true then .yield (none, ()) else .done (some false, ())) w) →
    (forIn L (none, ()) f).run P w = .ok (if L.all c = true then (none, ()) else (some false, ())) w
  | [], _ => rfl
  | x :: L, h => by
    rw [List.forIn_cons, Sem.run_bind, h x (by simp), Result.andThen_ok]
    cases hc : c x with
    | true =>
      have := all_loop c f L fun i hi => h i (by simp [hi])
      simp only [if_true, List.all_cons, hc, Bool.true_and]
      exact this
    | false => simp [hc]
theorem unit_loop {P : Program} {w : World} {α : Type} (f : α → PUnit → Sem (ForInStep PUnit)) : ∀ (L : List α), (∀ i ∈ L, (f i ()).run P w = .ok (.yield ()) w) → (forIn L () f).run P w = .ok () w
  | [], _ => rfl
  | x :: L, h => by
    rw [List.forIn_cons, Sem.run_bind, h x (by simp), Result.andThen_ok]
    exact unit_loop f L fun i hi => h i (by simp [hi])
set_option maxRecDepth 10000 in
theorem array_loop (t e : TypeId) (hu : Tryz.prog.underlying t = some (.array 6 e)) (he : Tryz.prog.underlying e = some .bool) (z : TypeInfo) (hz : Tryz.prog.info? e = some z) (h1 : Tryz.prog.cellsOf e = 1) (d : Nat) (w : World) (a0 a1 a2 a3 a4 a5 b0 b1 b2 b3 b4 b5 : Bool) :
    (Op.equalIn (d + 2) t (.agg ⟨[.bool a0, .bool a1, .bool a2, .bool a3, .bool a4, .bool a5]⟩) (.agg ⟨[.bool b0, .bool b1, .bool b2, .bool b3, .bool b4, .bool b5]⟩)).run Tryz.prog w =
      .ok (a0 == b0 && (a1 == b1 && (a2 == b2 && (a3 == b3 && (a4 == b4 && a5 == b5))))) w := by
  have q : ∀ a b : Bool, (Op.equalIn (d + 1) e (.bool a) (.bool b)).run Tryz.prog w = .ok (a == b) w := fun a b => run_equalIn_bool w _ _ _ _ he
  have x0 : (part e ⟨[.bool a0, .bool a1, .bool a2, .bool a3, .bool a4, .bool a5]⟩ 0).run Tryz.prog w = .ok (.bool a0) w := part_scalar he rfl (by simp)
  have y0 : (part e ⟨[.bool b0, .bool b1, .bool b2, .bool b3, .bool b4, .bool b5]⟩ 0).run Tryz.prog w = .ok (.bool b0) w := part_scalar he rfl (by simp)
  have x1 : (part e ⟨[.bool a0, .bool a1, .bool a2, .bool a3, .bool a4, .bool a5]⟩ 1).run Tryz.prog w = .ok (.bool a1) w := part_scalar he rfl (by simp)
  have y1 : (part e ⟨[.bool b0, .bool b1, .bool b2, .bool b3, .bool b4, .bool b5]⟩ 1).run Tryz.prog w = .ok (.bool b1) w := part_scalar he rfl (by simp)
  have x2 : (part e ⟨[.bool a0, .bool a1, .bool a2, .bool a3, .bool a4, .bool a5]⟩ 2).run Tryz.prog w = .ok (.bool a2) w := part_scalar he rfl (by simp)
  have y2 : (part e ⟨[.bool b0, .bool b1, .bool b2, .bool b3, .bool b4, .bool b5]⟩ 2).run Tryz.prog w = .ok (.bool b2) w := part_scalar he rfl (by simp)
  have x3 : (part e ⟨[.bool a0, .bool a1, .bool a2, .bool a3, .bool a4, .bool a5]⟩ 3).run Tryz.prog w = .ok (.bool a3) w := part_scalar he rfl (by simp)
  have y3 : (part e ⟨[.bool b0, .bool b1, .bool b2, .bool b3, .bool b4, .bool b5]⟩ 3).run Tryz.prog w = .ok (.bool b3) w := part_scalar he rfl (by simp)
  have x4 : (part e ⟨[.bool a0, .bool a1, .bool a2, .bool a3, .bool a4, .bool a5]⟩ 4).run Tryz.prog w = .ok (.bool a4) w := part_scalar he rfl (by simp)
  have y4 : (part e ⟨[.bool b0, .bool b1, .bool b2, .bool b3, .bool b4, .bool b5]⟩ 4).run Tryz.prog w = .ok (.bool b4) w := part_scalar he rfl (by simp)
  have x5 : (part e ⟨[.bool a0, .bool a1, .bool a2, .bool a3, .bool a4, .bool a5]⟩ 5).run Tryz.prog w = .ok (.bool a5) w := part_scalar he rfl (by simp)
  have y5 : (part e ⟨[.bool b0, .bool b1, .bool b2, .bool b3, .bool b4, .bool b5]⟩ 5).run Tryz.prog w = .ok (.bool b5) w := part_scalar he rfl (by simp)
  rw [Op.equalIn]
  simp only [Sem.run_bind, run_underlying hu, Result.andThen_ok, run_sizeOf w hz, h1, Nat.mul_one]
  rw [Std.Legacy.Range.forIn_eq_forIn_range']
  rw [all_loop (fun i => match i with | 0 => a0 == b0 | 1 => a1 == b1 | 2 => a2 == b2 | 3 => a3 == b3 | 4 => a4 == b4 | _ => a5 == b5) _ (List.range' [:6].start [:6].size [:6].step) ?_]
  · have : (List.range' [:6].start [:6].size [:6].step) = [0, 1, 2, 3, 4, 5] := rfl
    rw [this, Result.andThen_ok]
    simp only [List.all_cons, List.all_nil, Bool.and_true]
    cases (a0 == b0 && (a1 == b1 && (a2 == b2 && (a3 == b3 && (a4 == b4 && a5 == b5))))) <;> rfl
  · intro i hi
    have hi : i ∈ [0, 1, 2, 3, 4, 5] := hi
    simp only [List.mem_cons, List.not_mem_nil, or_false] at hi
    rcases hi with rfl | rfl | rfl | rfl | rfl | rfl
    · simp only [Sem.run_bind, x0, y0, q, Result.andThen_ok]; cases a0 == b0 <;> rfl
    · simp only [Sem.run_bind, x1, y1, q, Result.andThen_ok]; cases a1 == b1 <;> rfl
    · simp only [Sem.run_bind, x2, y2, q, Result.andThen_ok]; cases a2 == b2 <;> rfl
    · simp only [Sem.run_bind, x3, y3, q, Result.andThen_ok]; cases a3 == b3 <;> rfl
    · simp only [Sem.run_bind, x4, y4, q, Result.andThen_ok]; cases a4 == b4 <;> rfl
    · simp only [Sem.run_bind, x5, y5, q, Result.andThen_ok]; cases a5 == b5 <;> rfl
set_option maxRecDepth 10000 in
theorem array_key (t e : TypeId) (hu : Tryz.prog.underlying t = some (.array 6 e)) (he : Tryz.prog.underlying e = some .bool) (z : TypeInfo) (hz : Tryz.prog.info? e = some z) (h1 : Tryz.prog.cellsOf e = 1) (em : Bool) (d : Nat) (w : World) (a0 a1 a2 a3 a4 a5 : Bool) :
    (Instr.checkKey em (d + 2) t (.agg ⟨[.bool a0, .bool a1, .bool a2, .bool a3, .bool a4, .bool a5]⟩)).run Tryz.prog w = .ok () w := by
  have x0 : (part e ⟨[.bool a0, .bool a1, .bool a2, .bool a3, .bool a4, .bool a5]⟩ 0).run Tryz.prog w = .ok (.bool a0) w := part_scalar he rfl (by simp)
  have x1 : (part e ⟨[.bool a0, .bool a1, .bool a2, .bool a3, .bool a4, .bool a5]⟩ 1).run Tryz.prog w = .ok (.bool a1) w := part_scalar he rfl (by simp)
  have x2 : (part e ⟨[.bool a0, .bool a1, .bool a2, .bool a3, .bool a4, .bool a5]⟩ 2).run Tryz.prog w = .ok (.bool a2) w := part_scalar he rfl (by simp)
  have x3 : (part e ⟨[.bool a0, .bool a1, .bool a2, .bool a3, .bool a4, .bool a5]⟩ 3).run Tryz.prog w = .ok (.bool a3) w := part_scalar he rfl (by simp)
  have x4 : (part e ⟨[.bool a0, .bool a1, .bool a2, .bool a3, .bool a4, .bool a5]⟩ 4).run Tryz.prog w = .ok (.bool a4) w := part_scalar he rfl (by simp)
  have x5 : (part e ⟨[.bool a0, .bool a1, .bool a2, .bool a3, .bool a4, .bool a5]⟩ 5).run Tryz.prog w = .ok (.bool a5) w := part_scalar he rfl (by simp)
  have q : ∀ a : Bool, (Instr.checkKey em (d + 1) e (.bool a)).run Tryz.prog w = .ok () w := fun a => key_scalar he rfl rfl _ _
  rw [Instr.checkKey]
  simp only [Sem.run_bind, run_underlying hu, Result.andThen_ok]
  rw [Std.Legacy.Range.forIn_eq_forIn_range']
  rw [unit_loop _ (List.range' [:6].start [:6].size [:6].step) ?_]
  · rfl
  · intro i hi
    have hi : i ∈ [0, 1, 2, 3, 4, 5] := hi
    simp only [List.mem_cons, List.not_mem_nil, or_false] at hi
    rcases hi with rfl | rfl | rfl | rfl | rfl | rfl
    · simp only [Sem.run_bind, run_sizeOf w hz, h1, Nat.mul_one, x0, q, Result.andThen_ok, Sem.run_pure]
    · simp only [Sem.run_bind, run_sizeOf w hz, h1, Nat.mul_one, x1, q, Result.andThen_ok, Sem.run_pure]
    · simp only [Sem.run_bind, run_sizeOf w hz, h1, Nat.mul_one, x2, q, Result.andThen_ok, Sem.run_pure]
    · simp only [Sem.run_bind, run_sizeOf w hz, h1, Nat.mul_one, x3, q, Result.andThen_ok, Sem.run_pure]
    · simp only [Sem.run_bind, run_sizeOf w hz, h1, Nat.mul_one, x4, q, Result.andThen_ok, Sem.run_pure]
    · simp only [Sem.run_bind, run_sizeOf w hz, h1, Nat.mul_one, x5, q, Result.andThen_ok, Sem.run_pure]
theorem spec_strip_names : EqSpec Tryz.prog 261 [.bool false, .bool false, .bool false, .bool false, .bool false, .bool false] where
  eq := by
    intro xs ys r hx hy h w
    obtain ⟨a0, l0, e, hx1⟩ := like_bool hx
    obtain ⟨a1, l1, z1, hx2⟩ := like_bool hx1
    obtain ⟨a2, l2, z2, hx3⟩ := like_bool hx2
    obtain ⟨a3, l3, z3, hx4⟩ := like_bool hx3
    obtain ⟨a4, l4, z4, hx5⟩ := like_bool hx4
    obtain ⟨a5, l5, z5, hx6⟩ := like_bool hx5
    have qn := like_nil hx6
    subst qn z5 z4 z3 z2 z1
    rw [e] at hy
    obtain ⟨b0, l0, e', hy1⟩ := like_bool hy
    obtain ⟨b1, l1, z1, hy2⟩ := like_bool hy1
    obtain ⟨b2, l2, z2, hy3⟩ := like_bool hy2
    obtain ⟨b3, l3, z3, hy4⟩ := like_bool hy3
    obtain ⟨b4, l4, z4, hy5⟩ := like_bool hy4
    obtain ⟨b5, l5, z5, hy6⟩ := like_bool hy5
    have qn := like_nil hy6
    subst qn z5 z4 z3 z2 z1
    rw [e, e'] at h
    rw [arr_of e, arr_of e']
    have hr : r = (a0 == b0 && (a1 == b1 && (a2 == b2 && (a3 == b3 && (a4 == b4 && a5 == b5))))) := by
      have k : ∀ {x y : Bool} {l m : List Value} {q : Bool}, cellsEq (.bool x :: l) (.bool y :: m) = some r → (cellsEq l m = some r → r = q) → r = (x == y && q) := fun {x y l m q} h1 h2 => by
        by_cases hxy : x = y
        · rw [h2 ((ce_bool h1).1 hxy)]; simp [hxy]
        · rw [(ce_bool h1).2 hxy]; simp [hxy]
      refine k h fun h => k h fun h => k h fun h => k h fun h => k h fun h => ?_
      have := k (q := true) h fun h => ce_nil h
      simpa using this
    rw [hr]
    obtain ⟨i, hi⟩ : ∃ i, Tryz.prog.info? 4 = some i := Option.isSome_iff_exists.1 (by kernel_rfl)
    exact array_loop 261 4 (by kernel_rfl) Tryz.underlying4 i hi (by kernel_rfl) 9998 w _ _ _ _ _ _ _ _ _ _ _ _
  guard := by kernel_rfl
  key := by
    intro cs n _ _ hx em w
    obtain ⟨a0, l0, e, hx1⟩ := like_bool hx
    obtain ⟨a1, l1, z1, hx2⟩ := like_bool hx1
    obtain ⟨a2, l2, z2, hx3⟩ := like_bool hx2
    obtain ⟨a3, l3, z3, hx4⟩ := like_bool hx3
    obtain ⟨a4, l4, z4, hx5⟩ := like_bool hx4
    obtain ⟨a5, l5, z5, hx6⟩ := like_bool hx5
    have qn := like_nil hx6
    subst qn z5 z4 z3 z2 z1
    rw [arr_of e]
    obtain ⟨i, hi⟩ : ∃ i, Tryz.prog.info? 4 = some i := Option.isSome_iff_exists.1 (by kernel_rfl)
    exact array_key 261 4 (by kernel_rfl) Tryz.underlying4 i hi (by kernel_rfl) em 9998 w _ _ _ _ _ _
end Go.Am
