/- Lines of entries, plainly: words, how they are glued and cut again; numbers of at most four digits. -/
import Derived.Test.YtfnllpibhjikgaaGreatDoorJD41
import Derived.Lib.IndexMore
import Derived.Lib.CountLaws
import Derived.Lib.DecodeN
set_option linter.unusedSimpArgs false
set_option linter.unusedVariables false
namespace Go.Am
open Go Go.Proofs

abbrev Bs := List UInt8
/-- a text cut at each byte c -/
def cutAt (c : UInt8) : Bs → List Bs
  | [] => [[]]
  | b :: l => if b = c then [] :: cutAt c l else match cutAt c l with
    | [] => [[b]]
    | w :: r => (b :: w) :: r
theorem cut_none {c : UInt8} : ∀ {s : Bs}, c ∉ s → cutAt c s = [s]
  | [], _ => rfl
  | b :: l, h => by
    have hb : b ≠ c := fun e => h (by rw [e]; exact List.mem_cons_self)
    unfold cutAt
    rw [if_neg hb, cut_none fun hm => h (List.mem_cons_of_mem _ hm)]
theorem cut_hit {c : UInt8} : ∀ {p : Bs} (q : Bs), c ∉ p → cutAt c (p ++ c :: q) = p :: cutAt c q
  | [], q, _ => by simp [cutAt]
  | b :: l, q, h => by
    have hb : b ≠ c := fun e => h (by rw [e]; exact List.mem_cons_self)
    rw [List.cons_append]
    conv => lhs; unfold cutAt
    rw [if_neg hb, cut_hit q fun hm => h (List.mem_cons_of_mem _ hm)]
theorem cut_len (c : UInt8) : ∀ s : Bs, (cutAt c s).length ≤ s.length + 1
  | [] => by simp [cutAt]
  | b :: l => by
    have ih := cut_len c l
    unfold cutAt
    split
    · simp; omega
    · cases h : cutAt c l with
      | nil => simp
      | cons w r => rw [h] at ih; simp at ih ⊢; omega
theorem cut_pos (c : UInt8) (s : Bs) : 1 ≤ (cutAt c s).length := by
  cases s with
  | nil => simp [cutAt]
  | cons b l =>
    unfold cutAt
    split
    · simp
    · cases cutAt c l <;> simp
theorem cut_mem {c : UInt8} : ∀ {s : Bs} {w : Bs}, w ∈ cutAt c s → w.length ≤ s.length
  | [], w, h => by simp [cutAt] at h; subst h; exact Nat.le_refl _
  | b :: l, w, h => by
    have ih := fun {w : Bs} (h : w ∈ cutAt c l) => cut_mem h
    unfold cutAt at h
    split at h
    · rcases List.mem_cons.1 h with rfl | h
      · simp
      · have := ih h; simp; omega
    · cases e : cutAt c l with
      | nil => rw [e] at h; simp at h; subst h; simp
      | cons v r =>
        rw [e] at h
        rcases List.mem_cons.1 h with rfl | h
        · have := ih (w := v) (by rw [e]; exact List.mem_cons_self)
          simp; omega
        · have := ih (w := w) (by rw [e]; exact List.mem_cons_of_mem _ h)
          simp; omega
theorem split_cut (c : UInt8) : ∀ (n : Nat) (s : Bs), s.length ≤ n → Lib.splitK [c] 0 (Lib.count s [c]) s = cutAt c s ∧ (cutAt c s).length = Lib.count s [c] + 1 := by
  intro n
  induction n with
  | zero =>
    intro s h
    have : s = [] := List.eq_nil_of_length_eq_zero (by omega)
    subst this
    rw [Lib.count_miss (by rfl)]
    exact ⟨rfl, rfl⟩
  | succ n ih =>
    intro s h
    have hi := Lib.index_one s c
    have hge := Lib.index_ge s [c]
    by_cases e : Lib.index s [c] = -1
    · rw [Lib.count_miss e]
      rw [hi] at e
      rw [cut_none]
      · exact ⟨rfl, rfl⟩
      · intro hm
        obtain ⟨k, hk⟩ := List.getElem?_of_mem hm
        exact Lib.indexByte_none e k hk
    · obtain ⟨o, ho⟩ : ∃ o : Nat, Lib.index s [c] = o := ⟨(Lib.index s [c]).toNat, by omega⟩
      rw [Lib.count_hit (by simp) ho, Nat.add_comm 1]
      have hm : ¬ (Lib.index s [c] == -1) = true := fun e' => e (beq_iff_eq.1 e')
      have e1 : (Lib.index s [c]).toNat = o := by omega
      rw [Lib.splitK, if_neg hm, e1]
      rw [hi] at ho
      obtain ⟨h1, h2⟩ := Lib.indexByte_some ho
      obtain ⟨hlt, h3⟩ := List.getElem?_eq_some_iff.1 h1
      have hs : s = s.take o ++ c :: s.drop (o + 1) := by
        conv => lhs; rw [← List.take_append_drop o s, List.drop_eq_getElem_cons hlt, h3]
      have hc : c ∉ s.take o := by
        intro hm
        obtain ⟨k, hk⟩ := List.getElem?_of_mem hm
        have hk' := (List.getElem?_eq_some_iff.1 hk).1
        simp at hk'
        have hk0 : k < o := by omega
        rw [List.getElem?_take_of_lt hk0] at hk
        exact h2 k hk0 hk
      have e2 : cutAt c s = s.take o :: cutAt c (s.drop (o + 1)) := by
        conv => lhs; rw [hs]
        exact cut_hit _ hc
      have hl : (s.drop (o + 1)).length ≤ n := by simp; omega
      obtain ⟨i1, i2⟩ := ih _ hl
      rw [e2, Nat.add_zero]
      refine ⟨?_, ?_⟩
      · show s.take o :: Lib.splitK [c] 0 (Lib.count (s.drop (o + 1)) [c]) (s.drop (o + 1)) = _
        rw [i1]
      · show (cutAt c (s.drop (o + 1))).length + 1 = Lib.count (s.drop (o + 1)) [c] + 1 + 1
        rw [i2]
def glue (c : UInt8) : List Bs → Bs
  | [] => []
  | w :: r => match r with
    | [] => w
    | _ :: _ => w ++ c :: glue c r
theorem glue_one (c : UInt8) (w : Bs) : glue c [w] = w := rfl
theorem glue_cons (c : UInt8) (w v : Bs) (r : List Bs) : glue c (w :: v :: r) = w ++ c :: glue c (v :: r) := rfl
theorem cut_glue {c : UInt8} : ∀ {r : List Bs} {w : Bs}, (∀ x ∈ w :: r, c ∉ x) → cutAt c (glue c (w :: r)) = w :: r
  | [], w, h => cut_none (h w List.mem_cons_self)
  | v :: r, w, h => by
    rw [glue_cons, cut_hit _ (h w List.mem_cons_self), cut_glue fun x hx => h x (List.mem_cons_of_mem _ hx)]
theorem join_glue (c : UInt8) : ∀ (r : List Bs) (w : Bs), Lib.join (w :: r) [c] = glue c (w :: r)
  | [], w => Lib.join_one w [c]
  | v :: r, w => by
    rw [glue_cons, ← join_glue c r v, Lib.join_cons, Lib.join_cons]
    simp [Lib.joinTail]
theorem glue_no {c d : UInt8} (hcd : d ≠ c) : ∀ {r : List Bs} {w : Bs}, (∀ x ∈ w :: r, d ∉ x) → d ∉ glue c (w :: r)
  | [], w, h => h w List.mem_cons_self
  | v :: r, w, h => by
    rw [glue_cons]
    have ih := glue_no hcd (r := r) (w := v) fun x hx => h x (List.mem_cons_of_mem _ hx)
    have h0 := h w List.mem_cons_self
    simp [h0, hcd, ih]
def isDig (b : UInt8) : Bool := Nat.ble 48 b.toNat && Nat.ble b.toNat 57
def valB (x : Bs) : Nat := x.foldl (fun n b => 10 * n + (b.toNat - 48)) 0
def numB (x : Bs) : Bool := x.all isDig && (Nat.ble x.length 4 && (!x.isEmpty && (digs 9 (valB x) == x)))
def dec (n : Int) : Bs := digs 9 n.toNat
def okN (n : Int) : Prop := 0 ≤ n ∧ n ≤ 9999
def digsOK (n : Nat) : Bool := numB (digs 9 n) && (Nat.beq (valB (digs 9 n)) n && ((digs 9 n).all isDig && Nat.ble (digs 9 n).length 4))
theorem digs_all' : (List.range 100).all (fun a => (List.range 100).all fun b => digsOK (100 * a + b)) = true := by kernel_rfl
theorem digs_all (n : Nat) (h : n < 10000) : digsOK n = true := by
  have h1 := List.all_eq_true.1 digs_all' (n / 100) (List.mem_range.2 (by omega))
  have h2 := List.all_eq_true.1 h1 (n % 100) (List.mem_range.2 (by omega))
  rw [show 100 * (n / 100) + n % 100 = n by omega] at h2
  exact h2
theorem digs_one : ∀ n, n < 10 → digs 9 n = [UInt8.ofNat (48 + n)] := by decide +kernel
theorem dec_num {n : Int} (h : okN n) : numB (dec n) = true ∧ (valB (dec n) : Int) = n ∧ (dec n).length ≤ 4 ∧ (dec n).all isDig = true := by
  have := digs_all n.toNat (by have := h.2; omega)
  unfold digsOK at this
  simp only [Bool.and_eq_true] at this
  obtain ⟨h1, h2, h3, h4⟩ := this
  refine ⟨h1, ?_, Nat.le_of_ble_eq_true h4, h3⟩
  have := Nat.eq_of_beq_eq_true h2
  have h0 := h.1
  unfold dec
  omega
theorem dig_no {x : Bs} (h : x.all isDig = true) {c : UInt8} (hc : isDig c = false) : c ∉ x := by
  intro hm
  have := List.all_eq_true.1 h c hm
  rw [hc] at this; cases this
theorem dig_le {b : UInt8} (h : isDig b = true) : 48 ≤ b.toNat ∧ b.toNat ≤ 57 := by
  unfold isDig at h
  rw [Bool.and_eq_true] at h
  exact ⟨Nat.le_of_ble_eq_true h.1, Nat.le_of_ble_eq_true h.2⟩
theorem val_le : ∀ (x : Bs) (a k : Nat), x.all isDig = true → a < 10 ^ k → x.foldl (fun n b => 10 * n + (b.toNat - 48)) a < 10 ^ (k + x.length)
  | [], a, k, _, ha => by simpa using ha
  | b :: x, a, k, h, ha => by
    simp only [List.all_cons, Bool.and_eq_true] at h
    have hb := dig_le h.1
    have := val_le x (10 * a + (b.toNat - 48)) (k + 1) h.2 (by rw [Nat.pow_succ]; omega)
    rw [List.foldl_cons, List.length_cons, show k + (x.length + 1) = k + 1 + x.length by omega]
    exact this
theorem num_ok {x : Bs} (h : numB x = true) : okN (valB x) := by
  unfold numB at h
  simp only [Bool.and_eq_true] at h
  obtain ⟨h1, h2, _⟩ := h
  have h3 := Nat.le_of_ble_eq_true h2
  have := val_le x 0 0 h1 (by simp)
  have h4 : 10 ^ (0 + x.length) ≤ 10 ^ 4 := Nat.pow_le_pow_right (by omega) (by omega)
  unfold okN valB
  omega
/-- where a word is in a list; -1, if it is not -/
def pos (x : Bs) : List Bs → Nat → Int
  | [], _ => -1
  | w :: r, i => if w = x then (i : Int) else pos x r (i + 1)
def bs (l : Bs) : ByteArray := ⟨⟨l⟩⟩
theorem bs_size (l : Bs) : (bs l).size = l.length := rfl
theorem bs_get {l : Bs} {k : Nat} {b : UInt8} (h : l[k]? = some b) : (bs l).get! k = b := by
  obtain ⟨hk, e⟩ := List.getElem?_eq_some_iff.1 h
  show (bs l).data[k]! = b
  have hk' : k < (bs l).data.size := hk
  rw [getElem!_pos (bs l).data k hk']
  exact e
theorem decode_dig {l : Bs} {k : Nat} {b : UInt8} (h : l[k]? = some b) (hd : isDig b = true) : Utf8.decode (bs l) k = (b.toNat, 1) := by
  have hb := dig_le hd
  rw [Lib.decode_at, bs_get h]
  unfold Lib.decodeN
  rw [if_pos (by omega)]
theorem decode_not {l : Bs} {k : Nat} {b : UInt8} (h : l[k]? = some b) (hd : isDig b = false) : (Utf8.decode (bs l) k).1 < 48 ∨ 57 < (Utf8.decode (bs l) k).1 := by
  have hb : b.toNat < 48 ∨ 57 < b.toNat := by
    unfold isDig at hd
    rw [Bool.and_eq_false_iff] at hd
    rcases hd with q | q
    · left; rcases Nat.lt_or_ge b.toNat 48 with r | r
      · exact r
      · rw [Nat.ble_eq_true_of_le r] at q; cases q
    · right; rcases Nat.lt_or_ge 57 b.toNat with r | r
      · exact r
      · rw [Nat.ble_eq_true_of_le r] at q; cases q
  rw [Lib.decode_at, bs_get h]
  unfold Lib.decodeN
  repeat' split
  all_goals simp only
  all_goals omega
theorem val_snoc {x : Bs} {k : Nat} {b : UInt8} (h : x[k]? = some b) : valB (x.take (k + 1)) = 10 * valB (x.take k) + (b.toNat - 48) := by
  obtain ⟨hk, e⟩ := List.getElem?_eq_some_iff.1 h
  rw [List.take_succ_eq_append_getElem hk, e]
  unfold valB
  rw [List.foldl_append]; rfl
theorem dig_snoc {x : Bs} {k : Nat} {b : UInt8} (h : x[k]? = some b) (hd : isDig b = true) (ha : (x.take k).all isDig = true) : (x.take (k + 1)).all isDig = true := by
  obtain ⟨hk, e⟩ := List.getElem?_eq_some_iff.1 h
  rw [List.take_succ_eq_append_getElem hk, e, List.all_append, ha]
  simp [hd]
/-- a number in decimal, perhaps with a minus sign -/
def decZ (n : Int) : Bs := if n < 0 then 45 :: dec (-n) else dec n
/-- the sign of a word, and what is behind it -/
def signB : Bs → Int × Bs
  | [] => (1, [])
  | b :: r => if b = 45 then (-1, r) else (1, b :: r)
def numZ (x : Bs) : Option Int :=
  if ((signB x).2.all isDig && (Nat.ble 1 (signB x).2.length && Nat.ble (signB x).2.length 4)) = true ∧ decZ ((signB x).1 * valB (signB x).2) = x then some ((signB x).1 * valB (signB x).2) else none
def numsZ : List Bs → Option (List Int)
  | [] => some []
  | x :: r => match numZ x with
    | none => none
    | some n => match numsZ r with
      | none => none
      | some l => some (n :: l)
theorem num_dig {x : Bs} (h : numB x = true) : x.all isDig = true ∧ 1 ≤ x.length ∧ x.length ≤ 4 ∧ dec (valB x) = x := by
  unfold numB at h
  simp only [Bool.and_eq_true] at h
  obtain ⟨h1, h2, h3, h4⟩ := h
  refine ⟨h1, ?_, Nat.le_of_ble_eq_true h2, by have := beq_iff_eq.1 h4; exact this⟩
  cases x with
  | nil => simp at h3
  | cons a l => simp
theorem num_of {x : Bs} (h1 : x.all isDig = true) (h2 : 1 ≤ x.length) (h3 : x.length ≤ 4) (h4 : dec (valB x) = x) : numB x = true := by
  unfold numB
  simp only [Bool.and_eq_true]
  refine ⟨h1, Nat.ble_eq_true_of_le h3, ?_, beq_iff_eq.2 h4⟩
  cases x with
  | nil => simp at h2
  | cons a l => rfl
theorem sign_dig {x : Bs} (h : x.all isDig = true) : signB x = (1, x) := by
  cases x with
  | nil => rfl
  | cons b r =>
    have : b ≠ 45 := by
      intro e
      simp only [List.all_cons, Bool.and_eq_true] at h
      rw [e] at h; exact absurd h.1 (by decide)
    show (if b = 45 then ((-1 : Int), r) else (1, b :: r)) = _
    rw [if_neg this]
theorem numZ_of {x : Bs} (h : numB x = true) : numZ x = some (valB x : Int) := by
  obtain ⟨h1, h2, h3, h4⟩ := num_dig h
  unfold numZ
  rw [sign_dig h1]
  simp only [Int.one_mul]
  have e : decZ (valB x : Int) = x := by unfold decZ; rw [if_neg (by omega)]; exact h4
  rw [if_pos ⟨by rw [h1, Nat.ble_eq_true_of_le h2, Nat.ble_eq_true_of_le h3]; rfl, e⟩]
theorem numZ_pos {x : Bs} {n : Int} (h : numZ x = some n) (h0 : 0 ≤ n) : numB x = true ∧ n = valB x := by
  unfold numZ at h
  split at h
  · rename_i q
    obtain ⟨q1, q2⟩ := q
    have e : (signB x).1 * (valB (signB x).2 : Int) = n := by simpa using h
    rw [e] at q2
    simp only [Bool.and_eq_true] at q1
    obtain ⟨a1, a2, a3⟩ := q1
    have b2 := Nat.le_of_ble_eq_true a2
    have b3 := Nat.le_of_ble_eq_true a3
    cases x with
    | nil => simp [signB] at b2
    | cons b r =>
      by_cases hb : b = 45
      · exfalso
        have es : signB (b :: r) = (-1, r) := by show (if b = 45 then ((-1 : Int), r) else (1, b :: r)) = _; rw [if_pos hb]
        rw [es] at e a1
        simp only at e a1
        have hn : n = 0 := by omega
        rw [hn] at q2
        have : decZ 0 = [48] := by decide +kernel
        rw [this] at q2
        rw [hb] at q2
        simp at q2
      · have es : signB (b :: r) = (1, b :: r) := by show (if b = 45 then ((-1 : Int), r) else (1, b :: r)) = _; rw [if_neg hb]
        rw [es] at e a1 b2 b3
        simp only [Int.one_mul] at e
        unfold decZ at q2
        rw [if_neg (by omega), ← e] at q2
        exact ⟨num_of a1 b2 b3 q2, e.symm⟩
  · cases h
def tailB (ns : List Int) : Bs := ns.flatMap fun n => 32 :: dec n
theorem glue_tail : ∀ (ns : List Int) (w : Bs), glue 32 (w :: ns.map dec) = w ++ tailB ns
  | [], w => by simp [glue_one, tailB]
  | n :: ns, w => by
    rw [List.map_cons, glue_cons, glue_tail ns (dec n)]
    rfl
theorem tail_snoc {ns : List Int} {i : Nat} {n : Int} (h : ns[i]? = some n) : tailB (ns.take (i + 1)) = tailB (ns.take i) ++ 32 :: dec n := by
  obtain ⟨hk, e⟩ := List.getElem?_eq_some_iff.1 h
  rw [List.take_succ_eq_append_getElem hk, e]
  unfold tailB
  rw [List.flatMap_append]; simp
theorem tail_len : ∀ {ns : List Int}, (∀ n ∈ ns, okN n) → (tailB ns).length ≤ ns.length * 5
  | [], _ => by simp [tailB]
  | n :: ns, h => by
    have ih := tail_len (ns := ns) fun x hx => h x (List.mem_cons_of_mem _ hx)
    have h0 := (dec_num (h n List.mem_cons_self)).2.2.1
    have e : tailB (n :: ns) = 32 :: dec n ++ tailB ns := rfl
    rw [e, List.length_append, List.length_cons, List.length_cons]; omega
theorem take_mem {α : Type} {l : List α} {i : Nat} {x : α} (h : x ∈ l.take i) : x ∈ l := List.mem_of_mem_take h
theorem pos_none : ∀ {l : List Bs} {x : Bs} {k : Nat}, (∀ w ∈ l, w ≠ x) → pos x l k = -1
  | [], _, _, _ => rfl
  | w :: l, x, k, h => by
    unfold pos
    rw [if_neg (h w List.mem_cons_self), pos_none fun y hy => h y (List.mem_cons_of_mem _ hy)]
theorem pos_hit : ∀ {l : List Bs} {x : Bs} {k i : Nat}, l[i]? = some x → (∀ (j : Nat) w, j < i → l[j]? = some w → w ≠ x) → pos x l k = ((k + i : Nat) : Int)
  | [], _, _, _, h, _ => by simp at h
  | w :: l, x, k, 0, h, _ => by
    have : w = x := by simpa using h
    unfold pos
    rw [if_pos this]; rfl
  | w :: l, x, k, i + 1, h, hn => by
    unfold pos
    rw [if_neg (hn 0 w (by omega) rfl), pos_hit (k := k + 1) (i := i) (by simpa using h) fun j y hj hy => hn (j + 1) y (by omega) (by simpa using hy)]
    congr 1; omega
def vals (ws : List Bs) : List Int := ws.map fun x => (valB x : Int)
theorem vals_snoc {ws : List Bs} {i : Nat} {x : Bs} (h : ws[i]? = some x) : (vals (ws.take (i + 1))).flatMap ints = (vals (ws.take i)).flatMap ints ++ [.int .i64 (valB x)] := by
  obtain ⟨hk, e⟩ := List.getElem?_eq_some_iff.1 h
  rw [List.take_succ_eq_append_getElem hk, e]
  unfold vals
  rw [List.map_append, List.flatMap_append]; rfl
theorem val_small {x : Bs} {k : Nat} (h : (x.take k).all isDig = true) (hl : 0 < k → x.length ≤ 4) : valB (x.take k) ≤ 9999 := by
  cases k with
  | zero => simp [valB]
  | succ k =>
    have h3 := hl (by omega)
    have := val_le (x.take (k + 1)) 0 0 h (by simp)
    have hlen : (x.take (k + 1)).length ≤ 4 := by simp; omega
    have h4 : 10 ^ (0 + (x.take (k + 1)).length) ≤ 10 ^ 4 := Nat.pow_le_pow_right (by omega) (by omega)
    unfold valB
    omega
theorem num_no_len {x : Bs} (h : ¬ x.length ≤ 4) : numB x = false := by
  unfold numB
  have : Nat.ble x.length 4 = false := by cases hb : Nat.ble x.length 4 with | true => exact absurd (Nat.le_of_ble_eq_true hb) h | false => rfl
  rw [this]; simp
theorem num_no_dig {x : Bs} {k : Nat} {b : UInt8} (hb : x[k]? = some b) (h : isDig b = false) : numB x = false := by
  unfold numB
  have : x.all isDig = false := List.all_eq_false.2 ⟨b, List.mem_of_getElem? hb, by rw [h]; simp⟩
  rw [this]; simp
theorem num_nil : numB [] = false := rfl
theorem num_eq {x : Bs} (h1 : x.all isDig = true) (h2 : x.length ≤ 4) (h3 : x ≠ []) : numB x = decide (dec (valB x) = x) := by
  unfold numB
  have e3 : x.isEmpty = false := by cases x with | nil => exact absurd rfl h3 | cons a l => rfl
  rw [h1, Nat.ble_eq_true_of_le h2, e3, Bool.eq_iff_iff]
  simp only [Bool.true_and, Bool.not_false, beq_iff_eq, decide_eq_true_eq]
  rfl
theorem numZ_len {w : Bs} (h : ¬ (1 ≤ (signB w).2.length ∧ (signB w).2.length ≤ 4)) : numZ w = none := by
  unfold numZ
  rw [if_neg]
  rintro ⟨q, _⟩
  simp only [Bool.and_eq_true] at q
  exact h ⟨Nat.le_of_ble_eq_true q.2.1, Nat.le_of_ble_eq_true q.2.2⟩
theorem numZ_dig {w : Bs} {k : Nat} {b : UInt8} (hb : (signB w).2[k]? = some b) (h : isDig b = false) : numZ w = none := by
  unfold numZ
  have : (signB w).2.all isDig = false := List.all_eq_false.2 ⟨b, List.mem_of_getElem? hb, by rw [h]; simp⟩
  rw [this, if_neg]
  rintro ⟨q, _⟩
  simp at q
theorem numZ_is {w : Bs} (h1 : (signB w).2.all isDig = true) (h2 : 1 ≤ (signB w).2.length) (h3 : (signB w).2.length ≤ 4) : numZ w = if decide (decZ ((signB w).1 * valB (signB w).2) = w) = true then some ((signB w).1 * valB (signB w).2) else none := by
  unfold numZ
  rw [h1, Nat.ble_eq_true_of_le h2, Nat.ble_eq_true_of_le h3]
  simp
theorem not_dig {b : UInt8} (h : isDig b = false) : b.toNat < 48 ∨ 57 < b.toNat := by
  unfold isDig at h
  rw [Bool.and_eq_false_iff] at h
  rcases h with q | q
  · left; rcases Nat.lt_or_ge b.toNat 48 with r | r
    · exact r
    · rw [Nat.ble_eq_true_of_le r] at q; cases q
  · right; rcases Nat.lt_or_ge 57 b.toNat with r | r
    · exact r
    · rw [Nat.ble_eq_true_of_le r] at q; cases q
theorem digs_more : ∀ (f n : Nat), n < 10 ^ (f + 1) → digs (f + 2) n = digs (f + 1) n
  | 0, n, h => by
    have : Nat.ble n 9 = true := Nat.ble_eq_true_of_le (by simp at h; omega)
    simp only [digs, this]
  | f + 1, n, h => by
    have ih := digs_more f (n / 10) (by rw [Nat.pow_succ] at h; omega)
    unfold digs
    rw [ih]
theorem dec_step {n : Nat} (h : 10 ≤ n) (h2 : n < 1000000000) : digs 9 n = digs 9 (n / 10) ++ [UInt8.ofNat (48 + n % 10)] := by
  have hb : Nat.ble n 9 = false := by cases hb : Nat.ble n 9 with | true => exact absurd (Nat.le_of_ble_eq_true hb) (by omega) | false => rfl
  rw [digs_more 7 (n / 10) (by simp; omega)]
  show (match Nat.ble n 9 with | true => [UInt8.ofNat (48 + n)] | false => digs 8 (n / 10) ++ [UInt8.ofNat (48 + n % 10)]) = _
  rw [hb]
theorem digs_len : ∀ (f n : Nat), (digs f n).length ≤ f
  | 0, _ => Nat.le_refl _
  | f + 1, n => by
    unfold digs
    split
    · simp
    · have := digs_len f (n / 10)
      simp; omega
theorem decZ_len (n : Int) : (decZ n).length ≤ 10 := by
  unfold decZ dec
  split
  · have := digs_len 9 (-n).toNat
    simp; omega
  · have := digs_len 9 n.toNat
    omega
theorem cut_part {c : UInt8} {s : Bs} {fr i : Nat} (h1 : fr ≤ i) (hi : s[i]? = some c) (hn : ∀ (j : Nat) b, fr ≤ j → j < i → s[j]? = some b → b ≠ c) : cutAt c (s.drop fr) = (s.drop fr).take (i - fr) :: cutAt c (s.drop (i + 1)) := by
  obtain ⟨hlt, e⟩ := List.getElem?_eq_some_iff.1 hi
  have hs : s.drop fr = (s.drop fr).take (i - fr) ++ c :: s.drop (i + 1) := by
    conv => lhs; rw [← List.take_append_drop (i - fr) (s.drop fr)]
    rw [List.drop_drop, show fr + (i - fr) = i by omega, List.drop_eq_getElem_cons hlt, e]
  conv => lhs; rw [hs]
  refine cut_hit _ fun hm => ?_
  obtain ⟨k, hk⟩ := List.getElem?_of_mem hm
  have hk' := (List.getElem?_eq_some_iff.1 hk).1
  simp at hk'
  rw [List.getElem?_take_of_lt (by omega), List.getElem?_drop] at hk
  exact hn (fr + k) c (by omega) (by omega) hk rfl
theorem cut_rest {c : UInt8} {s : Bs} {fr : Nat} (hn : ∀ (j : Nat) b, fr ≤ j → s[j]? = some b → b ≠ c) : cutAt c (s.drop fr) = [s.drop fr] := by
  refine cut_none fun hm => ?_
  obtain ⟨k, hk⟩ := List.getElem?_of_mem hm
  rw [List.getElem?_drop] at hk
  exact hn (fr + k) c (by omega) hk rfl
theorem u8_eq (a b : UInt8) : ((a.toNat : Int) == (b.toNat : Int)) = decide (a = b) := by
  rw [Bool.eq_iff_iff]
  simp only [beq_iff_eq, decide_eq_true_eq]
  constructor
  · intro h; exact UInt8.toNat_inj.1 (by omega)
  · intro h; rw [h]
end Go.Am
