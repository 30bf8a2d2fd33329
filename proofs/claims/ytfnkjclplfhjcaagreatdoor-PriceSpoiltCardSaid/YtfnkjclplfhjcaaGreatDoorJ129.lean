/- Parts 129, 130, 131 of the abstract machine over this program, joined: what each part says stands at its head. -/
import Derived.Test.YtfnkjclplfhjcaaGreatDoorJ127
import Derived.Test.YtfnkjclplfhjcaaGreatDoorJ90
set_option linter.unusedSimpArgs false
set_option linter.unusedVariables false
/- The abstract machine, part 129: strings in equations; Itoa, Split, Join. -/
namespace Go.Am
open Go Go.Proofs

theorem bs_mk (l : Bs) : ByteArray.mk (List.toArray l) = bs l := rfl
theorem bs_list (l : Bs) : (bs l).data.toList = l := rfl
theorem s_eq (a b : Bs) : strEq (bs a) (bs b) = decide (a = b) := by
  unfold strEq
  rw [byteEq_eq, bs_list, bs_list, Bool.eq_iff_iff, beq_iff_eq, decide_eq_true_eq]
theorem s_add {C : Ctx} {t : TypeId} {c : Bool} {a b : Bs} (h : a.length + b.length ≤ 4611686018427387904) : aBin C .add t c (.string (bs a)) (.string (bs b)) = some (.string (bs (a ++ b))) := by
  have e : aBin C .add t c (.string (bs a)) (.string (bs b)) = guardB (Nat.ble (a.length + b.length) 4611686018427387904) (some (mkStr (a ++ b))) := by simp [aBin, aBinStr, bs_list]
  rw [e, Nat.ble_eq_true_of_le h]
  rfl
theorem i_9 {l : Bs} {k : Nat} {b : UInt8} (h : l[k]? = some b) : aIndex CC 9 (.string (bs l)) (.int .i64 k) = some (.int .u8 b.toNat) := by
  have hk := (List.getElem?_eq_some_iff.1 h).1
  unfold aIndex
  rw [und_9]
  show obind (guardB (Nat.ble (k + 1) l.length) (some k)) (fun j => obind (lget l j) fun b => some (Value.int .u8 b.toNat)) = _
  rw [Nat.ble_eq_true_of_le hk, guardB_true, obind_some, lget_eq, h]
  rfl
theorem cv_5_3 (k : IntKind) (n : Int) (h : Heap) : aConvert CC 5 3 (.int k n) h = some (.val (.int .i64 (IntKind.i64.wrap n))) := by
  unfold aConvert
  rw [und_5, und_3]; rfl
theorem cv_21_3 (k : IntKind) (n : Int) (h : Heap) : aConvert CC 21 3 (.int k n) h = some (.val (.int .i64 (IntKind.i64.wrap n))) := by
  unfold aConvert
  rw [und_21, und_3]; rfl
theorem wrap8 {n : Int} (h1 : 0 ≤ n) (h2 : n < 256) : IntKind.u8.wrap n = n := by
  show (if (false && decide (n % 256 ≥ 128)) = true then n % 256 - 256 else n % 256) = n
  simp only [Bool.false_and, Bool.false_eq_true, if_false]
  omega
theorem wrap32 {n : Int} (h1 : -2147483648 ≤ n) (h2 : n < 2147483648) : IntKind.i32.wrap n = n := by
  show (if (true && decide (n % 4294967296 ≥ 2147483648)) = true then n % 4294967296 - 4294967296 else n % 4294967296) = n
  simp only [Bool.true_and, decide_eq_true_eq]
  split <;> omega
theorem rg_9 (s : FrS) (h : Heap) (dst : Option Tmp) (b : ByteArray) : rangeOp CC 9 dst s h (.string b) = some (.ok (s.put dst (ptrTo h.next)) (h.alloc (.iter b 0))) := by
  unfold rangeOp
  simp only [und_9, obind_some, isStringD, guardB_true]
theorem next_dig {h : Heap} {i k : Nat} {l : Bs} {b : UInt8} (hg : h.get i = some (.iter (bs l) k)) (hb : l[k]? = some b) (hd : isDig b = true) :
    aNext (.pointer (some ⟨i, 0, none⟩)) h = some (.tuple ⟨[.bool true, .int .i64 k, .int .i32 b.toNat]⟩, h.set i (.iter (bs l) (k + 1))) := by
  have hk := (List.getElem?_eq_some_iff.1 hb).1
  have e : aNext (.pointer (some ⟨i, 0, none⟩)) h = nextIn h i (bs l) k (Nat.ble (k + 1) l.length) := by
    unfold aNext
    show obind (some _) _ = _
    rw [obind_some]
    show guardB true (obind (obind (h.get i) iterOf) _) = _
    rw [guardB_true, hg, obind_some]
    rfl
  rw [e, Nat.ble_eq_true_of_le hk]
  unfold nextIn
  rw [decode_dig hb hd]
  rfl
theorem next_not {h : Heap} {i k : Nat} {l : Bs} {b : UInt8} (hg : h.get i = some (.iter (bs l) k)) (hb : l[k]? = some b) (hd : isDig b = false) :
    ∃ (r : Nat) (x : AObj), (r < 48 ∨ 57 < r) ∧ aNext (.pointer (some ⟨i, 0, none⟩)) h = some (.tuple ⟨[.bool true, .int .i64 k, .int .i32 r]⟩, h.set i x) := by
  have hk := (List.getElem?_eq_some_iff.1 hb).1
  have e : aNext (.pointer (some ⟨i, 0, none⟩)) h = nextIn h i (bs l) k (Nat.ble (k + 1) l.length) := by
    unfold aNext
    show obind (some _) _ = _
    rw [obind_some]
    show guardB true (obind (obind (h.get i) iterOf) _) = _
    rw [guardB_true, hg, obind_some]
    rfl
  rw [e, Nat.ble_eq_true_of_le hk]
  exact ⟨_, _, decode_not hb hd, rfl⟩
theorem next_end {h : Heap} {i k : Nat} {l : Bs} (hg : h.get i = some (.iter (bs l) k)) (hk : l.length ≤ k) : aNext (.pointer (some ⟨i, 0, none⟩)) h = some (.tuple ⟨[.bool false]⟩, h) := by
  have e : aNext (.pointer (some ⟨i, 0, none⟩)) h = nextIn h i (bs l) k (Nat.ble (k + 1) l.length) := by
    unfold aNext
    show obind (some _) _ = _
    rw [obind_some]
    show guardB true (obind (obind (h.get i) iterOf) _) = _
    rw [guardB_true, hg, obind_some]
    rfl
  have : Nat.ble (k + 1) l.length = false := by cases hb : Nat.ble (k + 1) l.length with | true => exact absurd (Nat.le_of_ble_eq_true hb) (by omega) | false => rfl
  rw [e, this]
  rfl

/- THE LIBRARY -/
theorem CW_spec {C : Ctx} {f : FuncId} {sp : Spec} {args : List Value} {h : Heap} {v : Value} {h' : Heap} {Q : Value → Heap → Prop} (hA : C.A f = some sp) (hs : sp args h = some (v, h')) (hQ : Q v h') : CW C f args h Q := by
  refine ⟨v, h', ?_, hQ⟩
  unfold callF
  rw [hA]
  simp only [hs, obind_some, retPair]
theorem itoa_126 {n : Int} (h0 : 0 ≤ n) (h1 : n < 1000000000) (h : Heap) : CW CC 126 [.int .i64 n] h fun r h' => r = .string (bs (dec n)) ∧ h' = h := by
  obtain ⟨m, rfl⟩ := Int.eq_ofNat_of_zero_le h0
  refine CW_spec (sp := itoaSpec) (v := .string (bs (dec m))) (h' := h) (by kernel_rfl) ?_ ⟨rfl, rfl⟩
  show guardB (Nat.ble (m + 1) 1000000000) (some (Value.string ⟨⟨digs 9 m⟩⟩, h)) = _
  rw [Nat.ble_eq_true_of_le (by omega)]
  rfl
/-- a list of strings -/
def strC (w : Bs) : List Value := [.string (bs w)]
theorem strC_len (w : Bs) : (strC w).length = 1 := rfl
theorem strC_map (ws : List Bs) : ws.flatMap strC = ws.map fun w => .string (bs w) := by
  induction ws with
  | nil => rfl
  | cons w ws ih => rw [List.flatMap_cons, ih]; rfl
theorem split_128 {t : Bs} {c : UInt8} (ht : t.length ≤ 1000000) {h : Heap} (hk : HOK h) (hp : 0 < h.next) : CW CC 128 [.string (bs t), .string (bs [c])] h fun r h' => SL h.next h' r ((cutAt c t).flatMap strC) 1 (cutAt c t).length ∧ Fr h h' := by
  obtain ⟨e1, e2⟩ := split_cut c t.length t (Nat.le_refl _)
  have ec : Lib.countB (bs t) (bs [c]) = Lib.count t [c] := rfl
  have el : (Lib.splitB (bs [c]) 0 (Lib.count t [c]) (bs t)).map Value.string = (cutAt c t).flatMap strC := by
    have := Lib.splitB_data (bs [c]) 0 (Lib.count t [c]) (bs t)
    rw [strC_map, ← e1]
    show _ = (Lib.splitK (bs [c]).data.toList 0 (Lib.count t [c]) (bs t).data.toList).map _
    rw [← this, List.map_map]
    rfl
  refine CW_spec (sp := splitSpec) (v := sliceTo 1 (cutAt c t).length (cutAt c t).length h.next) (h' := h.alloc (.row ((cutAt c t).flatMap strC) 1 true)) (by kernel_rfl) ?_ ⟨SL.new (Nat.le_refl _) hp _ _ _ (by rw [flat_len strC_len]), (Fr.refl hk).alloc _⟩
  show guardB (Nat.ble 1 (bs [c]).size && Nat.ble ((bs t).size + 1) 4294967281) _ = _
  have g1 : (Nat.ble 1 (bs [c]).size && Nat.ble ((bs t).size + 1) 4294967281) = true := by
    rw [Bool.and_eq_true]
    exact ⟨rfl, Nat.ble_eq_true_of_le (by rw [bs_size]; omega)⟩
  rw [g1, guardB_true, ec, el, e2]
theorem strs_of : ∀ ws : List Bs, strsOf (ws.flatMap strC) = some (ws.map bs)
  | [] => rfl
  | w :: ws => by
    have ih := strs_of ws
    show obind (some (bs w)) (fun x => obind (strsOf (ws.flatMap strC)) fun r => some (x :: r)) = _
    rw [ih]; rfl
theorem SL.val_le {N : Nat} {h : Heap} {v : Value} {l : List Value} {s n : Nat} (q : SL N h v l s n) : ∃ p c, v = .slice p n c ∧ n ≤ c := by
  rcases q with ⟨rfl, _, rfl⟩ | ⟨b, rfl, _⟩
  · exact ⟨_, _, rfl, Nat.le_refl _⟩
  · exact ⟨_, _, rfl, Nat.le_refl _⟩
theorem join_127 {N : Nat} {h : Heap} {v : Value} {ws : List Bs} {p : Bs} (q : SL N h v (ws.flatMap strC) 1 ws.length) (hn : ws.length ≤ 1000000) (hl : (Lib.join ws p).length ≤ 140737488355328) : CW CC 127 [v, .string (bs p)] h fun r h' => r = .string (bs (Lib.join ws p)) ∧ h' = h := by
  have hc := q.cells
  obtain ⟨a, c, rfl, hle⟩ := q.val_le
  refine CW_spec (sp := joinSpec) (v := .string (bs (Lib.join ws p))) (h' := h) (by kernel_rfl) ?_ ⟨rfl, rfl⟩
  show guardB (Nat.ble ws.length c && Nat.ble ws.length 140737488355328) (obind (sliceCells h 1 ws.length (.slice a ws.length c)) fun cells => obind (strsOf cells) fun xs => guardB (Nat.ble (Lib.join (xs.map (·.data.toList)) p).length 140737488355328) (some (Value.string ⟨⟨Lib.join (xs.map (·.data.toList)) p⟩⟩, h))) = _
  have g1 : (Nat.ble ws.length c && Nat.ble ws.length 140737488355328) = true := by
    rw [Bool.and_eq_true]
    exact ⟨Nat.ble_eq_true_of_le hle, Nat.ble_eq_true_of_le (by omega)⟩
  have e : (ws.map bs).map (·.data.toList) = ws := by
    rw [List.map_map]
    exact List.map_id'' (fun _ => rfl) ws
  rw [g1, guardB_true, hc, obind_some, strs_of, obind_some, e, Nat.ble_eq_true_of_le hl]
  rfl
end Go.Am

/- The abstract machine, part 130: contracts: need, row, words, ruleNames, slices.Index of strings. -/
namespace Go.Am
open Go Go.Proofs
theorem F123_Am130 : type_of% (And.intro @ix_22 <| And.intro @ld_3 <| And.intro @len_22 <| And.intro @part_3 <| And.intro @size_22 <| And.intro @size_3 <| And.intro @und_22 @zero_22) := And.intro @ix_22 <| And.intro @ld_3 <| And.intro @len_22 <| And.intro @part_3 <| And.intro @size_22 <| And.intro @size_3 <| And.intro @und_22 @zero_22
theorem F130_Am130 : type_of% (And.intro @ix_117 <| And.intro @ld_9 <| And.intro @len_117 <| And.intro @part_9 <| And.intro @size_117 <| And.intro @size_9 <| And.intro @und_117 @zero_117) := And.intro @ix_117 <| And.intro @ld_9 <| And.intro @len_117 <| And.intro @part_9 <| And.intro @size_117 <| And.intro @size_9 <| And.intro @und_117 @zero_117

def noText (v : Value) : Prop := ∃ s : ByteArray, v = .iface 129 (.agg ⟨[.string s]⟩)
theorem need_129 (b : Bool) (s : ByteArray) {h : Heap} (hk : HOK h) : CX CC 129 [.bool b, .string s] h (fun _ h' => b = true ∧ Fr h h') fun v h' => b = false ∧ noText v ∧ Fr h h' := by
  refine CX_in Tryz.f129 (by kernel_rfl) (by kernel_rfl) rfl rfl ?_
  simp only [Tryz.f129]
  cases b
  · simp (maxDischargeDepth := 30) only [AMS, AMH, ↓reduceIte, Nat.reduceLT, Nat.reduceEqDiff, Nat.reduceAdd, Nat.reduceMul, reduceCtorEq, decide_true, decide_false, Nat.reduceLeDiff, Int.reduceNe, Int.reduceEq, ne_eq, not_false_eq_true, and_self, bld_129, fld_129_0, mi_129, size_129, sp_129_0, zero_129, hk, O_panic, ROr_panic, PostX_panic]
    exact ⟨trivial, ⟨s, rfl⟩, Fr.refl hk⟩
  · simp (maxDischargeDepth := 30) only [AMS, AMH, ↓reduceIte, Nat.reduceLT, Nat.reduceEqDiff, Nat.reduceAdd, Nat.reduceMul, reduceCtorEq, decide_true, decide_false, Nat.reduceLeDiff, Int.reduceNe, Int.reduceEq, ne_eq, not_false_eq_true, and_self, bld_129, fld_129_0, mi_129, size_129, sp_129_0, zero_129, hk, PostX_end]
    exact ⟨trivial, Fr.refl hk⟩

def tailB (ns : List Int) : Bs := ns.flatMap fun n => 32 :: dec n
theorem glue_tail : ∀ (ns : List Int) (w : Bs), glue 32 (w :: ns.map dec) = w ++ tailB ns
  | [], w => by simp [glue_one, tailB]
  | n :: ns, w => by
    rw [List.map_cons, glue_cons, glue_tail ns (dec n)]
    rfl
theorem tail_snoc {ns : List Int} {i : Nat} {n : Int} (h : ns[i]? = some n) : tailB (ns.take (i + 1)) = tailB (ns.take i) ++ 32 :: dec n := by
  obtain ⟨hk, e⟩ := List.getElem?_eq_some_iff.1 h
  rw [List.take_succ_eq_append_getElem hk, e]
  unfold tailB
  rw [List.flatMap_append]; simp
theorem tail_len : ∀ {ns : List Int}, (∀ n ∈ ns, okN n) → (tailB ns).length ≤ ns.length * 4
  | [], _ => by simp [tailB]
  | n :: ns, h => by
    have ih := tail_len (ns := ns) fun x hx => h x (List.mem_cons_of_mem _ hx)
    have h0 := (dec_num (h n List.mem_cons_self)).2.2.1
    have e : tailB (n :: ns) = 32 :: dec n ++ tailB ns := rfl
    rw [e, List.length_append, List.length_cons, List.length_cons]; omega
theorem take_mem {α : Type} {l : List α} {i : Nat} {x : α} (h : x ∈ l.take i) : x ∈ l := List.mem_of_mem_take h

set_option maxRecDepth 10000 in
set_option maxHeartbeats 1000000 in
theorem row_123 {w : Bs} {v : Value} {ns : List Int} {h : Heap} (hk : HOK h) (hv : LS h v ns ints 1) (hn : ∀ n ∈ ns, okN n) (hl : ns.length ≤ 100) (hw : w.length ≤ 100) :
    CW CC 123 [.string (bs w), v] h fun r h' => r = .string (bs (glue 32 (w :: ns.map dec))) ∧ Fr h h' := by
  obtain ⟨p, c, rfl, hx⟩ := hv.open
  refine CW_in Tryz.f123 (by kernel_rfl) (by kernel_rfl) rfl rfl ?_
  simp only [Tryz.f123, bs_mk]
  simp (maxDischargeDepth := 30) only [AMS, AMH, ↓reduceIte, Nat.reduceLT, Nat.reduceEqDiff, Nat.reduceAdd, Nat.reduceMul, reduceCtorEq, decide_true, decide_false, Nat.reduceLeDiff, Int.reduceNe, Int.reduceEq, ne_eq, not_false_eq_true, and_self, F123_Am130, hk]
  refine W_loop ns.length (fun m f h' => ∃ i, i ≤ ns.length ∧ m = ns.length - i ∧ f 7 = .slice p ns.length c ∧ f 8 = .int .i64 ns.length ∧ f 9 = .int .i64 i ∧ f 0 = .string (bs (w ++ tailB (ns.take i))) ∧ h' = h)
    ⟨0, by omega, by omega, by simp [upd_at, argsFn_at], by simp [upd_at], by simp [upd_at], by simp [upd_at, argsFn_at, tailB], rfl⟩ ?_
  rintro m f h' ⟨i, hi, rfl, g7, g8, g9, g0, rfl⟩ ih
  by_cases hil : i < ns.length
  · obtain ⟨n, gn⟩ : ∃ n, ns[i]? = some n := ⟨_, List.getElem?_eq_getElem hil⟩
    rcases hx with hx | ⟨b, o, sp, row, rfl, hr, hx⟩
    · rw [hx] at hil; simp at hil
    have hcell : row[o + i]? = some (.int .i64 n) := by
      have := (hx _ _ gn).2 0 (by omega)
      simpa [ints] using this
    have on := hn n (List.mem_of_getElem? gn)
    have a1 := (dec_num on).2.2.1
    have a2 := tail_len (ns := ns.take i) fun x hx => hn x (take_mem hx)
    have a3 : (ns.take i).length ≤ 100 := by simp; omega
    simp (maxDischargeDepth := 30) only [AMS, AMH, ↓reduceIte, Nat.reduceLT, Nat.reduceEqDiff, Nat.reduceAdd, Nat.reduceMul, reduceCtorEq, decide_true, decide_false, Nat.reduceLeDiff, Int.reduceNe, Int.reduceEq, ne_eq, not_false_eq_true, and_self, F123_Am130, hk, g7, g8, g9, g0, lt_t hil, hil, Nat.mul_one, hr, hcell]
    refine W_call (itoa_126 (n := n) on.1 (by have := on.2; omega) _) ?_
    rintro _ h2 ⟨rfl, rfl⟩
    simp (maxDischargeDepth := 30) only [AMS, AMH, ↓reduceIte, Nat.reduceLT, Nat.reduceEqDiff, Nat.reduceAdd, Nat.reduceMul, reduceCtorEq, decide_true, decide_false, Nat.reduceLeDiff, Int.reduceNe, Int.reduceEq, ne_eq, not_false_eq_true, and_self, F123_Am130, hk, g7, g8, g9, g0, bs_mk, s_add (a := [32]) (b := dec n) (by simp; omega), s_add (a := w ++ tailB (ns.take i)) (b := 32 :: dec n) (by simp; omega), wrap64 (n := (i : Int) + 1) (by omega) (by omega)]
    refine ih (ns.length - (i + 1)) _ _ (by omega) ?_
    exact ⟨i + 1, by omega, rfl, by simp [upd_at, g7], by simp [upd_at, g8], by simp [upd_at], by simp [upd_at, tail_snoc gn], rfl⟩
  · have : i = ns.length := by omega
    subst this
    simp (maxDischargeDepth := 30) only [AMS, AMH, ↓reduceIte, Nat.reduceLT, Nat.reduceEqDiff, Nat.reduceAdd, Nat.reduceMul, reduceCtorEq, decide_true, decide_false, Nat.reduceLeDiff, Int.reduceNe, Int.reduceEq, ne_eq, not_false_eq_true, and_self, F123_Am130, hk, g7, g8, g9, g0, lt_f]
    rw [List.take_length, glue_tail]
    exact ⟨rfl, Fr.refl hk⟩

theorem words_124 {h : Heap} (hk : HOK h) : CW CC 124 [] h fun r h' => r = .agg ⟨wordList.map fun w => .string (bs w)⟩ ∧ Fr h h' := by
  refine CW_in Tryz.f124 (by kernel_rfl) (by kernel_rfl) rfl rfl ?_
  simp only [Tryz.f124, bs_mk]
  simp (maxDischargeDepth := 30) only [AMS, AMH, ↓reduceIte, Nat.reduceLT, Nat.reduceEqDiff, Nat.reduceAdd, Nat.reduceMul, reduceCtorEq, decide_true, decide_false, Nat.reduceLeDiff, Int.reduceNe, Int.reduceEq, ne_eq, not_false_eq_true, and_self, bld_143, ld_143, part_9, size_143, size_9, und_143, zero_143, hk]
  exact ⟨by first | rfl | trivial, ((Fr.refl hk).alloc _).set (Nat.le_refl _) (by simp) _⟩
theorem ruleNames_144 {h : Heap} (hk : HOK h) : CW CC 144 [] h fun r h' => r = .agg ⟨ruleList.map fun w => .string (bs w)⟩ ∧ Fr h h' := by
  refine CW_in Tryz.f144 (by kernel_rfl) (by kernel_rfl) rfl rfl ?_
  simp only [Tryz.f144, bs_mk]
  simp (maxDischargeDepth := 30) only [AMS, AMH, ↓reduceIte, Nat.reduceLT, Nat.reduceEqDiff, Nat.reduceAdd, Nat.reduceMul, reduceCtorEq, decide_true, decide_false, Nat.reduceLeDiff, Int.reduceNe, Int.reduceEq, ne_eq, not_false_eq_true, and_self, bld_170, ld_170, part_9, size_170, size_9, und_170, zero_170, hk]
  exact ⟨by first | rfl | trivial, ((Fr.refl hk).alloc _).set (Nat.le_refl _) (by simp) _⟩

theorem pos_none : ∀ {l : List Bs} {x : Bs} {k : Nat}, (∀ w ∈ l, w ≠ x) → pos x l k = -1
  | [], _, _, _ => rfl
  | w :: l, x, k, h => by
    unfold pos
    rw [if_neg (h w List.mem_cons_self), pos_none fun y hy => h y (List.mem_cons_of_mem _ hy)]
theorem pos_hit : ∀ {l : List Bs} {x : Bs} {k i : Nat}, l[i]? = some x → (∀ (j : Nat) w, j < i → l[j]? = some w → w ≠ x) → pos x l k = ((k + i : Nat) : Int)
  | [], _, _, _, h, _ => by simp at h
  | w :: l, x, k, 0, h, _ => by
    have : w = x := by simpa using h
    unfold pos
    rw [if_pos this]; rfl
  | w :: l, x, k, i + 1, h, hn => by
    unfold pos
    rw [if_neg (hn 0 w (by omega) rfl), pos_hit (k := k + 1) (i := i) (by simpa using h) fun j y hj hy => hn (j + 1) y (by omega) (by simpa using hy)]
    congr 1; omega

set_option maxRecDepth 10000 in
set_option maxHeartbeats 1000000 in
theorem index_130 {x : Bs} {v : Value} {ws : List Bs} {h : Heap} (hk : HOK h) (hv : LS h v ws strC 1) (hl : ws.length ≤ 1000) : CW CC 130 [v, .string (bs x)] h fun r h' => r = .int .i64 (pos x ws 0) ∧ h' = h := by
  obtain ⟨p, c, rfl, hx⟩ := hv.open
  refine CW_in Tryz.f130 (by kernel_rfl) (by kernel_rfl) rfl rfl ?_
  simp only [Tryz.f130]
  simp (maxDischargeDepth := 30) only [AMS, AMH, ↓reduceIte, Nat.reduceLT, Nat.reduceEqDiff, Nat.reduceAdd, Nat.reduceMul, reduceCtorEq, decide_true, decide_false, Nat.reduceLeDiff, Int.reduceNe, Int.reduceEq, ne_eq, not_false_eq_true, and_self, F130_Am130, hk]
  refine W_loop ws.length (fun m f h' => ∃ i, i ≤ ws.length ∧ m = ws.length - i ∧ f 0 = .slice p ws.length c ∧ f 1 = .string (bs x) ∧ f 7 = .int .i64 ws.length ∧ f 8 = .int .i64 i ∧ (∀ (j : Nat) w, j < i → ws[j]? = some w → w ≠ x) ∧ h' = h)
    ⟨0, by omega, by omega, by simp [upd_at, argsFn_at], by simp [upd_at, argsFn_at], by simp [upd_at], by simp [upd_at], fun j w hj => by omega, rfl⟩ ?_
  rintro m f h' ⟨i, hi, rfl, g0, g1, g7, g8, hn, rfl⟩ ih
  by_cases hil : i < ws.length
  · obtain ⟨w, gw⟩ : ∃ w, ws[i]? = some w := ⟨_, List.getElem?_eq_getElem hil⟩
    rcases hx with hx | ⟨b, o, sp, row, rfl, hr, hx⟩
    · rw [hx] at hil; simp at hil
    have hcell : row[o + i]? = some (.string (bs w)) := by
      have := (hx _ _ gw).2 0 (by omega)
      simpa [strC] using this
    by_cases hw : w = x
    · subst hw
      have hd : decide (w = w) = true := by simp
      simp (maxDischargeDepth := 30) only [AMS, AMH, ↓reduceIte, Nat.reduceLT, Nat.reduceEqDiff, Nat.reduceAdd, Nat.reduceMul, reduceCtorEq, decide_true, decide_false, Nat.reduceLeDiff, Int.reduceNe, Int.reduceEq, ne_eq, not_false_eq_true, and_self, F130_Am130, hk, g0, g1, g7, g8, lt_t hil, hil, Nat.mul_one, hr, hcell, s_eq, hd]
      exact ⟨by rw [pos_hit gw hn]; simp, trivial⟩
    · have hd : decide (x = w) = false := by simp; exact fun e => hw e.symm
      simp (maxDischargeDepth := 30) only [AMS, AMH, ↓reduceIte, Nat.reduceLT, Nat.reduceEqDiff, Nat.reduceAdd, Nat.reduceMul, reduceCtorEq, decide_true, decide_false, Nat.reduceLeDiff, Int.reduceNe, Int.reduceEq, ne_eq, not_false_eq_true, and_self, F130_Am130, hk, g0, g1, g7, g8, lt_t hil, hil, Nat.mul_one, hr, hcell, s_eq, hd, wrap64 (n := (i : Int) + 1) (by omega) (by omega)]
      refine ih (ws.length - (i + 1)) _ _ (by omega) ?_
      refine ⟨i + 1, by omega, rfl, by simp [upd_at, g0], by simp [upd_at, g1], by simp [upd_at, g7], by simp [upd_at], fun j y hj hy => ?_, rfl⟩
      rcases Nat.lt_or_ge j i with q | q
      · exact hn j y q hy
      · have : j = i := by omega
        subst this
        rw [gw] at hy; simp at hy; subst hy; exact hw
  · have : i = ws.length := by omega
    subst this
    simp (maxDischargeDepth := 30) only [AMS, AMH, ↓reduceIte, Nat.reduceLT, Nat.reduceEqDiff, Nat.reduceAdd, Nat.reduceMul, reduceCtorEq, decide_true, decide_false, Nat.reduceLeDiff, Int.reduceNe, Int.reduceEq, ne_eq, not_false_eq_true, and_self, F130_Am130, hk, g0, g1, g7, g8, lt_f]
    refine ⟨?_, trivial⟩
    rw [pos_none]
    intro w hw
    obtain ⟨j, hj⟩ := List.getElem?_of_mem hw
    exact hn j w (List.getElem?_eq_some_iff.1 hj).1 hj
end Go.Am

/- The abstract machine, part 131: contracts: given; the line of a tariff. -/
namespace Go.Am
open Go Go.Proofs
theorem F131_Am131 : type_of% (And.intro @bs_22 <| And.intro @ix_117 <| And.intro @ix_22 <| And.intro @ld_9 <| And.intro @len_117 <| And.intro @len_9 <| And.intro @part_3 <| And.intro @part_9 <| And.intro @size_117 <| And.intro @size_22 <| And.intro @size_3 <| And.intro @size_9 <| And.intro @und_117 <| And.intro @und_21 <| And.intro @und_22 <| And.intro @und_3 <| And.intro @zero_117 @zero_22) := And.intro @bs_22 <| And.intro @ix_117 <| And.intro @ix_22 <| And.intro @ld_9 <| And.intro @len_117 <| And.intro @len_9 <| And.intro @part_3 <| And.intro @part_9 <| And.intro @size_117 <| And.intro @size_22 <| And.intro @size_3 <| And.intro @size_9 <| And.intro @und_117 <| And.intro @und_21 <| And.intro @und_22 <| And.intro @und_3 <| And.intro @zero_117 @zero_22

theorem nums_bad {ws : List Bs} {many i : Nat} {x : Bs} (hx : ws[i]? = some x) (h : numB x = false) : numsB ws many = false := by
  unfold numsB
  rw [Bool.and_eq_false_iff]
  right
  rw [List.all_eq_false]
  exact ⟨x, List.mem_of_getElem? hx, by rw [h]; simp⟩
theorem nums_good {ws : List Bs} {many : Nat} (hl : ws.length = many) (h : ∀ (j : Nat) x, j < ws.length → ws[j]? = some x → numB x = true) : numsB ws many = true := by
  unfold numsB
  rw [Bool.and_eq_true]
  refine ⟨by rw [hl]; exact Nat.beq_refl _, List.all_eq_true.2 fun x hx => ?_⟩
  obtain ⟨j, hj⟩ := List.getElem?_of_mem hx
  exact h j x (List.getElem?_eq_some_iff.1 hj).1 hj
theorem vals_snoc {ws : List Bs} {i : Nat} {x : Bs} (h : ws[i]? = some x) : (vals (ws.take (i + 1))).flatMap ints = (vals (ws.take i)).flatMap ints ++ [.int .i64 (valB x)] := by
  obtain ⟨hk, e⟩ := List.getElem?_eq_some_iff.1 h
  rw [List.take_succ_eq_append_getElem hk, e]
  unfold vals
  rw [List.map_append, List.flatMap_append]; rfl
theorem val_small {x : Bs} {k : Nat} (h : (x.take k).all isDig = true) (hl : 0 < k → x.length ≤ 3) : valB (x.take k) ≤ 999 := by
  cases k with
  | zero => simp [valB]
  | succ k =>
    have h3 := hl (by omega)
    have := val_le (x.take (k + 1)) 0 0 h (by simp)
    have hlen : (x.take (k + 1)).length ≤ 3 := by simp; omega
    have h4 : 10 ^ (0 + (x.take (k + 1)).length) ≤ 10 ^ 3 := Nat.pow_le_pow_right (by omega) (by omega)
    unfold valB
    omega
theorem num_no_len {x : Bs} (h : ¬ x.length ≤ 3) : numB x = false := by
  unfold numB
  have : Nat.ble x.length 3 = false := by cases hb : Nat.ble x.length 3 with | true => exact absurd (Nat.le_of_ble_eq_true hb) h | false => rfl
  rw [this]; simp
theorem num_no_dig {x : Bs} {k : Nat} {b : UInt8} (hb : x[k]? = some b) (h : isDig b = false) : numB x = false := by
  unfold numB
  have : x.all isDig = false := List.all_eq_false.2 ⟨b, List.mem_of_getElem? hb, by rw [h]; simp⟩
  rw [this]; simp
theorem num_nil : numB [] = false := rfl
theorem num_eq {x : Bs} (h1 : x.all isDig = true) (h2 : x.length ≤ 3) (h3 : x ≠ []) : numB x = decide (dec (valB x) = x) := by
  unfold numB
  have e3 : x.isEmpty = false := by cases x with | nil => exact absurd rfl h3 | cons a l => rfl
  rw [h1, Nat.ble_eq_true_of_le h2, e3, Bool.eq_iff_iff]
  simp only [Bool.true_and, Bool.not_false, beq_iff_eq, decide_eq_true_eq]
  rfl

set_option maxRecDepth 10000 in
set_option maxHeartbeats 4000000 in
theorem given_131 {v : Value} {ws : List Bs} {many : Nat} {h : Heap} (hk : HOK h) (hp : 0 < h.next) (hv : LS h v ws strC 1) (hl : ws.length ≤ 1000) (hm : many ≤ 1000) :
    CX CC 131 [v, .int .i64 many] h (fun r h' => numsB ws many = true ∧ SL h.next h' r ((vals ws).flatMap ints) 1 ws.length ∧ Fr h h') fun e h' => numsB ws many = false ∧ noText e ∧ Fr h h' := by
  obtain ⟨p, c, rfl, hx⟩ := hv.open
  refine CX_in Tryz.f131 (by kernel_rfl) (by kernel_rfl) rfl rfl ?_
  simp only [Tryz.f131, bs_mk]
  simp (maxDischargeDepth := 30) only [AMS, AMH, ↓reduceIte, Nat.reduceLT, Nat.reduceEqDiff, Nat.reduceAdd, Nat.reduceMul, reduceCtorEq, decide_true, decide_false, Nat.reduceLeDiff, Int.reduceNe, Int.reduceEq, ne_eq, not_false_eq_true, and_self, F131_Am131, hk, bs_mk]
  refine W_callX (need_129 _ _ hk) ?_ ?_
  rotate_left
  · rintro e h1 ⟨hb, nt, f1⟩
    simp only [PostX_panic]
    refine ⟨?_, nt, f1⟩
    unfold numsB
    have : Nat.beq ws.length many = false := by
      cases hq : Nat.beq ws.length many with
      | false => rfl
      | true => have := Nat.eq_of_beq_eq_true hq; rw [this] at hb; simp at hb
    rw [this]; rfl
  rintro _ h1 ⟨hb, f1⟩
  have hlen : ws.length = many := by have : (ws.length : Int) = many := by simpa using hb
                                     omega
  clear hb
  simp (maxDischargeDepth := 30) only [AMS, AMH, ↓reduceIte, Nat.reduceLT, Nat.reduceEqDiff, Nat.reduceAdd, Nat.reduceMul, reduceCtorEq, decide_true, decide_false, Nat.reduceLeDiff, Int.reduceNe, Int.reduceEq, ne_eq, not_false_eq_true, and_self, F131_Am131, f1.ok, bs_mk]
  refine W_loop ws.length (fun m f h' => ∃ i, i ≤ ws.length ∧ m = ws.length - i ∧ f 16 = .slice p ws.length c ∧ f 17 = .int .i64 ws.length ∧ f 18 = .int .i64 i ∧ (∀ (j : Nat) w, j < i → ws[j]? = some w → numB w = true) ∧
      SL h.next h' (f 5) ((vals (ws.take i)).flatMap ints) 1 i ∧ Fr h h')
    ⟨0, by omega, by omega, by simp [upd_at, argsFn_at], by simp [upd_at], by simp [upd_at], fun j w hj => by omega, by simpa [upd_at, vals] using SL.nil h.next h1 1, f1⟩ ?_
  clear f1 h1
  rintro m f h1 ⟨i, hi, rfl, g16, g17, g18, hn, q5, f1⟩ ih
  have k1 := f1.ok
  by_cases hil : i < ws.length
  rotate_left
  · have : i = ws.length := by omega
    subst this
    simp (maxDischargeDepth := 30) only [AMS, AMH, ↓reduceIte, Nat.reduceLT, Nat.reduceEqDiff, Nat.reduceAdd, Nat.reduceMul, reduceCtorEq, decide_true, decide_false, Nat.reduceLeDiff, Int.reduceNe, Int.reduceEq, ne_eq, not_false_eq_true, and_self, F131_Am131, k1, g16, g17, g18, lt_f, PostX_ret]
    rw [List.take_length] at q5
    exact ⟨nums_good hlen hn, q5, f1⟩
  obtain ⟨x, gx⟩ : ∃ x, ws[i]? = some x := ⟨_, List.getElem?_eq_getElem hil⟩
  rcases hx with hx | ⟨b, o, sp, row, rfl, hr, hx⟩
  · rw [hx] at hil; simp at hil
  have hcell : row[o + i]? = some (.string (bs x)) := by
    have := (hx _ _ gx).2 0 (by omega)
    simpa [strC] using this
  have hr1 := f1.row' hk hr
  simp (maxDischargeDepth := 30) only [AMS, AMH, ↓reduceIte, Nat.reduceLT, Nat.reduceEqDiff, Nat.reduceAdd, Nat.reduceMul, reduceCtorEq, decide_true, decide_false, Nat.reduceLeDiff, Int.reduceNe, Int.reduceEq, ne_eq, not_false_eq_true, and_self, F131_Am131, k1, g16, g17, g18, lt_t hil, hil, Nat.mul_one, hr1, hcell, rg_9]
  have fa : Fr h (h1.alloc (.iter (bs x) 0)) := f1.alloc _
  have ga : (h1.alloc (.iter (bs x) 0)).get h1.next = some (.iter (bs x) 0) := get_at _ rfl
  have qa : SL h.next (h1.alloc (.iter (bs x) 0)) (f 5) ((vals (ws.take i)).flatMap ints) 1 i := q5.fr k1 ((Fr.refl k1).alloc _)
  have na : blkOf (f 5) ≠ some h1.next := fun e => by have := (q5.blk_lt k1 e).2; omega
  have hN : h.next ≤ h1.next := f1.next
  refine W_loop x.length (fun m' f' h' => ∃ k, k ≤ x.length ∧ m' = x.length - k ∧ f' 23 = .pointer (some ⟨h1.next, 0, none⟩) ∧ f' 7 = .string (bs x) ∧ f' 8 = .int .i64 (valB (x.take k)) ∧ f' 16 = .slice (some ⟨b, o, sp⟩) ws.length c ∧ f' 17 = .int .i64 ws.length ∧ f' 18 = .int .i64 i ∧
      (x.take k).all isDig = true ∧ (0 < k → x.length ≤ 3) ∧ h'.get h1.next = some (.iter (bs x) k) ∧ blkOf (f' 5) ≠ some h1.next ∧ SL h.next h' (f' 5) ((vals (ws.take i)).flatMap ints) 1 i ∧ Fr h h')
    ⟨0, by omega, by omega, by simp [upd_at], by simp [upd_at], by simp [upd_at, valB], by simp [upd_at, g16], by simp [upd_at, g17], by simp [upd_at, g18], by simp, fun h => by omega, ga, by simpa [upd_at] using na, by simpa [upd_at] using qa, fa⟩ ?_
  clear fa ga qa na
  rintro m' f' h2 ⟨k, hkx, rfl, r23, r7, r8, r16, r17, r18, hd, h3, gi, nb, q2, f2⟩ ih2
  have k2 := f2.ok
  have hsm := val_small hd h3
  have hpl := get_lt k2 gi
  by_cases hkl : k < x.length
  · obtain ⟨y, gy⟩ : ∃ y, x[k]? = some y := ⟨_, List.getElem?_eq_getElem hkl⟩
    have keep : ∀ z, SL h.next (h2.set h1.next z) (f' 5) ((vals (ws.take i)).flatMap ints) 1 i := fun z => q2.keep fun b' hb' => Heap.get_set_ne _ _ (fun e => nb (by rw [hb', e]))
    have fs : ∀ z, Fr h (h2.set h1.next z) := fun z => f2.set hN hpl z
    cases hy : isDig y with
    | false =>
      obtain ⟨r, z, hr', en⟩ := next_not gi gy hy
      have kz := (fs z).ok
      have hbad := nums_bad (many := many) gx (num_no_dig gy hy)
      rcases hr' with hlt | hgt
      · have c1 : decide ((r : Int) ≥ 48) = false := by simp; omega
        simp (maxDischargeDepth := 30) only [AMS, AMH, ↓reduceIte, Nat.reduceLT, Nat.reduceEqDiff, Nat.reduceAdd, Nat.reduceMul, reduceCtorEq, decide_true, decide_false, Nat.reduceLeDiff, Int.reduceNe, Int.reduceEq, ne_eq, not_false_eq_true, and_self, F131_Am131, k2, r23, r7, r8, en, kz, c1]
        refine W_callX (need_129 _ _ kz) ?_ ?_
        · rintro _ h3 ⟨hb, _⟩; cases hb
        · rintro e h3 ⟨_, nt, f3⟩
          simp only [PostX_panic]
          exact ⟨hbad, nt, (fs z).trans f3⟩
      · have c1 : decide ((r : Int) ≥ 48) = true := by simp; omega
        have c2 : decide ((r : Int) ≤ 57) = false := by simp; omega
        simp (maxDischargeDepth := 30) only [AMS, AMH, ↓reduceIte, Nat.reduceLT, Nat.reduceEqDiff, Nat.reduceAdd, Nat.reduceMul, reduceCtorEq, decide_true, decide_false, Nat.reduceLeDiff, Int.reduceNe, Int.reduceEq, ne_eq, not_false_eq_true, and_self, F131_Am131, k2, r23, r7, r8, en, kz, c1, c2]
        refine W_callX (need_129 _ _ kz) ?_ ?_
        · rintro _ h3 ⟨hb, _⟩; cases hb
        · rintro e h3 ⟨_, nt, f3⟩
          simp only [PostX_panic]
          exact ⟨hbad, nt, (fs z).trans f3⟩
    | true =>
      have en := next_dig gi gy hy
      have kz := (fs (.iter (bs x) (k + 1))).ok
      have hyr := dig_le hy
      have c1 : decide ((y.toNat : Int) ≥ 48) = true := by simp; omega
      have c2 : decide ((y.toNat : Int) ≤ 57) = true := by simp; omega
      by_cases hx3 : x.length ≤ 3
      · have c3 : decide ((x.length : Int) ≤ 3) = true := by simp; omega
        simp (maxDischargeDepth := 30) only [AMS, AMH, ↓reduceIte, Nat.reduceLT, Nat.reduceEqDiff, Nat.reduceAdd, Nat.reduceMul, reduceCtorEq, decide_true, decide_false, Nat.reduceLeDiff, Int.reduceNe, Int.reduceEq, ne_eq, not_false_eq_true, and_self, F131_Am131, k2, r23, r7, r8, en, kz, c1, c2, c3, bs_list]
        refine W_callX (need_129 _ _ kz) ?_ ?_
        rotate_left
        · rintro e h3 ⟨hb, _⟩; cases hb
        rintro _ h3 ⟨_, f3⟩
        have f23 := (fs (.iter (bs x) (k + 1))).trans f3
        have g3 : h3.get h1.next = some (.iter (bs x) (k + 1)) := f3.get' kz (get_set_self' _ _ _)
        have q3 := (keep (.iter (bs x) (k + 1))).fr kz f3
        simp (maxDischargeDepth := 30) only [AMS, AMH, ↓reduceIte, Nat.reduceLT, Nat.reduceEqDiff, Nat.reduceAdd, Nat.reduceMul, reduceCtorEq, decide_true, decide_false, Nat.reduceLeDiff, Int.reduceNe, Int.reduceEq, ne_eq, not_false_eq_true, and_self, F131_Am131, f23.ok, r8, cv_21_3, wrap64 (n := 10 * (valB (x.take k) : Int)) (by omega) (by omega), wrap32 (n := (y.toNat : Int) - 48) (by omega) (by omega), wrap64 (n := (y.toNat : Int) - 48) (by omega) (by omega), wrap64 (n := 10 * (valB (x.take k) : Int) + ((y.toNat : Int) - 48)) (by omega) (by omega)]
        refine ih2 (x.length - (k + 1)) _ _ (by omega) ?_
        have ev := val_snoc gy
        refine ⟨k + 1, by omega, rfl, by simp [upd_at, r23], by simp [upd_at, r7], ?_, by simp [upd_at, r16], by simp [upd_at, r17], by simp [upd_at, r18], dig_snoc gy hy hd, fun _ => hx3, g3, by simpa [upd_at] using nb, by simpa [upd_at] using q3, f23⟩
        simp only [upd_at, ↓reduceIte, Nat.reduceEqDiff]
        congr 1
        rw [ev]; omega
      · have c3 : decide ((x.length : Int) ≤ 3) = false := by simp; omega
        simp (maxDischargeDepth := 30) only [AMS, AMH, ↓reduceIte, Nat.reduceLT, Nat.reduceEqDiff, Nat.reduceAdd, Nat.reduceMul, reduceCtorEq, decide_true, decide_false, Nat.reduceLeDiff, Int.reduceNe, Int.reduceEq, ne_eq, not_false_eq_true, and_self, F131_Am131, k2, r23, r7, r8, en, kz, c1, c2, c3, bs_list]
        refine W_callX (need_129 _ _ kz) ?_ ?_
        · rintro _ h3 ⟨hb, _⟩; cases hb
        · rintro e h3 ⟨_, nt, f3⟩
          simp only [PostX_panic]
          exact ⟨nums_bad gx (num_no_len hx3), nt, (fs _).trans f3⟩
  · have hke : k = x.length := by omega
    subst hke
    have en := next_end gi (Nat.le_refl _)
    rw [List.take_length] at hd hsm r8
    by_cases hnil : x = []
    · have c1 : decide (x = []) = true := by simp [hnil]
      simp (maxDischargeDepth := 30) only [AMS, AMH, ↓reduceIte, Nat.reduceLT, Nat.reduceEqDiff, Nat.reduceAdd, Nat.reduceMul, reduceCtorEq, decide_true, decide_false, Nat.reduceLeDiff, Int.reduceNe, Int.reduceEq, ne_eq, not_false_eq_true, and_self, F131_Am131, k2, r23, r7, r8, en, s_eq, c1]
      refine W_callX (need_129 _ _ k2) ?_ ?_
      · rintro _ h3 ⟨hb, _⟩; cases hb
      · rintro e h3 ⟨_, nt, f3⟩
        simp only [PostX_panic]
        exact ⟨nums_bad gx (by rw [hnil]; exact num_nil), nt, f2.trans f3⟩
    · have c1 : decide (x = []) = false := by simp [hnil]
      have hx3 : x.length ≤ 3 := h3 (by cases x with | nil => exact absurd rfl hnil | cons a l => simp)
      have ne := num_eq hd hx3 hnil
      simp (maxDischargeDepth := 30) only [AMS, AMH, ↓reduceIte, Nat.reduceLT, Nat.reduceEqDiff, Nat.reduceAdd, Nat.reduceMul, reduceCtorEq, decide_true, decide_false, Nat.reduceLeDiff, Int.reduceNe, Int.reduceEq, ne_eq, not_false_eq_true, and_self, F131_Am131, k2, r23, r7, r8, en, s_eq, c1]
      refine W_call (itoa_126 (n := valB x) (by omega) (by omega) _) ?_
      rintro _ h3' ⟨rfl, rfl⟩
      simp (maxDischargeDepth := 30) only [AMS, AMH, ↓reduceIte, Nat.reduceLT, Nat.reduceEqDiff, Nat.reduceAdd, Nat.reduceMul, reduceCtorEq, decide_true, decide_false, Nat.reduceLeDiff, Int.reduceNe, Int.reduceEq, ne_eq, not_false_eq_true, and_self, F131_Am131, k2, r7, s_eq]
      refine W_callX (need_129 _ _ k2) ?_ ?_
      rotate_left
      · rintro e h3' ⟨hb, nt, f3⟩
        simp only [PostX_panic]
        exact ⟨nums_bad gx (by rw [ne]; exact hb), nt, f2.trans f3⟩
      rintro _ h3' ⟨hb, f3⟩
      have f23 := f2.trans f3
      have q3 := q2.fr k2 f3
      obtain ⟨h4, e4, q4, f4, n4, _⟩ := append_one (ts := []) app_22 f23 (by have := f23.next; omega) q3 (v := .int .i64 (valB x)) rfl (by omega)
      simp (maxDischargeDepth := 30) only [AMS, AMH, ↓reduceIte, Nat.reduceLT, Nat.reduceEqDiff, Nat.reduceAdd, Nat.reduceMul, reduceCtorEq, decide_true, decide_false, Nat.reduceLeDiff, Int.reduceNe, Int.reduceEq, ne_eq, not_false_eq_true, and_self, F131_Am131, f23.ok, r8, e4, f4.ok, r18, wrap64 (n := (i : Int) + 1) (by omega) (by omega)]
      refine ih (ws.length - (i + 1)) _ _ (by omega) ?_
      refine ⟨i + 1, by omega, rfl, by simp [upd_at, r16], by simp [upd_at, r17], by simp [upd_at], fun j w hj hw => ?_, by simpa [upd_at, vals_snoc gx] using q4, f4⟩
      rcases Nat.lt_or_ge j i with q | q
      · exact hn j w q hw
      · have : j = i := by omega
        subst this
        rw [gx] at hw; simp at hw; subst hw
        rw [ne]; exact hb
end Go.Am
