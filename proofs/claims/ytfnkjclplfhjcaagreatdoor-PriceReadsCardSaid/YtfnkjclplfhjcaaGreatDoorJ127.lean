/- Parts 127, 128 of the abstract machine over this program, joined: what each part says stands at its head. -/
import Derived.Test.YtfnkjclplfhjcaaGreatDoorJ52
import Derived.Lib.IndexMore
import Derived.Lib.CountLaws
import Derived.Lib.DecodeN
set_option linter.unusedSimpArgs false
set_option linter.unusedVariables false
/- Texts of sheets, plainly: words, rows, and how they are cut again. -/
namespace Go.Am
open Go Go.Proofs

theorem known_23s (h : Heap) : callF CC (Lim CC) 23 [] h = some (.ret (.bool true) h none) := by
  have : CC.A 23 = some knownSpec := by kernel_rfl
  unfold callF; rw [this]; rfl
abbrev Bs := List UInt8

/- CUTTING -/
/-- a text cut at each byte c -/
def cutAt (c : UInt8) : Bs → List Bs
  | [] => [[]]
  | b :: l => if b = c then [] :: cutAt c l else match cutAt c l with
    | [] => [[b]]
    | w :: r => (b :: w) :: r
theorem cut_none {c : UInt8} : ∀ {s : Bs}, c ∉ s → cutAt c s = [s]
  | [], _ => rfl
  | b :: l, h => by
    have hb : b ≠ c := fun e => h (by rw [e]; exact List.mem_cons_self)
    unfold cutAt
    rw [if_neg hb, cut_none fun hm => h (List.mem_cons_of_mem _ hm)]
theorem cut_hit {c : UInt8} : ∀ {p : Bs} (q : Bs), c ∉ p → cutAt c (p ++ c :: q) = p :: cutAt c q
  | [], q, _ => by simp [cutAt]
  | b :: l, q, h => by
    have hb : b ≠ c := fun e => h (by rw [e]; exact List.mem_cons_self)
    rw [List.cons_append]
    conv => lhs; unfold cutAt
    rw [if_neg hb, cut_hit q fun hm => h (List.mem_cons_of_mem _ hm)]
theorem cut_len (c : UInt8) : ∀ s : Bs, (cutAt c s).length ≤ s.length + 1
  | [] => by simp [cutAt]
  | b :: l => by
    have ih := cut_len c l
    unfold cutAt
    split
    · simp; omega
    · cases h : cutAt c l with
      | nil => simp
      | cons w r => rw [h] at ih; simp at ih ⊢; omega
theorem cut_pos (c : UInt8) (s : Bs) : 1 ≤ (cutAt c s).length := by
  cases s with
  | nil => simp [cutAt]
  | cons b l =>
    unfold cutAt
    split
    · simp
    · cases cutAt c l <;> simp
theorem cut_mem {c : UInt8} : ∀ {s : Bs} {w : Bs}, w ∈ cutAt c s → w.length ≤ s.length
  | [], w, h => by simp [cutAt] at h; subst h; exact Nat.le_refl _
  | b :: l, w, h => by
    have ih := fun {w : Bs} (h : w ∈ cutAt c l) => cut_mem h
    unfold cutAt at h
    split at h
    · rcases List.mem_cons.1 h with rfl | h
      · simp
      · have := ih h; simp; omega
    · cases e : cutAt c l with
      | nil => rw [e] at h; simp at h; subst h; simp
      | cons v r =>
        rw [e] at h
        rcases List.mem_cons.1 h with rfl | h
        · have := ih (w := v) (by rw [e]; exact List.mem_cons_self)
          simp; omega
        · have := ih (w := w) (by rw [e]; exact List.mem_cons_of_mem _ h)
          simp; omega

theorem split_cut (c : UInt8) : ∀ (n : Nat) (s : Bs), s.length ≤ n → Lib.splitK [c] 0 (Lib.count s [c]) s = cutAt c s ∧ (cutAt c s).length = Lib.count s [c] + 1 := by
  intro n
  induction n with
  | zero =>
    intro s h
    have : s = [] := List.eq_nil_of_length_eq_zero (by omega)
    subst this
    rw [Lib.count_miss (by rfl)]
    exact ⟨rfl, rfl⟩
  | succ n ih =>
    intro s h
    have hi := Lib.index_one s c
    have hge := Lib.index_ge s [c]
    by_cases e : Lib.index s [c] = -1
    · rw [Lib.count_miss e]
      rw [hi] at e
      rw [cut_none]
      · exact ⟨rfl, rfl⟩
      · intro hm
        obtain ⟨k, hk⟩ := List.getElem?_of_mem hm
        exact Lib.indexByte_none e k hk
    · obtain ⟨o, ho⟩ : ∃ o : Nat, Lib.index s [c] = o := ⟨(Lib.index s [c]).toNat, by omega⟩
      rw [Lib.count_hit (by simp) ho, Nat.add_comm 1]
      have hm : ¬ (Lib.index s [c] == -1) = true := fun e' => e (beq_iff_eq.1 e')
      have e1 : (Lib.index s [c]).toNat = o := by omega
      rw [Lib.splitK, if_neg hm, e1]
      rw [hi] at ho
      obtain ⟨h1, h2⟩ := Lib.indexByte_some ho
      obtain ⟨hlt, h3⟩ := List.getElem?_eq_some_iff.1 h1
      have hs : s = s.take o ++ c :: s.drop (o + 1) := by
        conv => lhs; rw [← List.take_append_drop o s, List.drop_eq_getElem_cons hlt, h3]
      have hc : c ∉ s.take o := by
        intro hm
        obtain ⟨k, hk⟩ := List.getElem?_of_mem hm
        have hk' := (List.getElem?_eq_some_iff.1 hk).1
        simp at hk'
        have hk0 : k < o := by omega
        rw [List.getElem?_take_of_lt hk0] at hk
        exact h2 k hk0 hk
      have e2 : cutAt c s = s.take o :: cutAt c (s.drop (o + 1)) := by
        conv => lhs; rw [hs]
        exact cut_hit _ hc
      have hl : (s.drop (o + 1)).length ≤ n := by simp; omega
      obtain ⟨i1, i2⟩ := ih _ hl
      rw [e2, Nat.add_zero]
      refine ⟨?_, ?_⟩
      · show s.take o :: Lib.splitK [c] 0 (Lib.count (s.drop (o + 1)) [c]) (s.drop (o + 1)) = _
        rw [i1]
      · show (cutAt c (s.drop (o + 1))).length + 1 = Lib.count (s.drop (o + 1)) [c] + 1 + 1
        rw [i2]

/- GLUEING -/
def glue (c : UInt8) : List Bs → Bs
  | [] => []
  | w :: r => match r with
    | [] => w
    | _ :: _ => w ++ c :: glue c r
theorem glue_one (c : UInt8) (w : Bs) : glue c [w] = w := rfl
theorem glue_cons (c : UInt8) (w v : Bs) (r : List Bs) : glue c (w :: v :: r) = w ++ c :: glue c (v :: r) := rfl
theorem cut_glue {c : UInt8} : ∀ {r : List Bs} {w : Bs}, (∀ x ∈ w :: r, c ∉ x) → cutAt c (glue c (w :: r)) = w :: r
  | [], w, h => cut_none (h w List.mem_cons_self)
  | v :: r, w, h => by
    rw [glue_cons, cut_hit _ (h w List.mem_cons_self), cut_glue fun x hx => h x (List.mem_cons_of_mem _ hx)]
theorem join_glue (c : UInt8) : ∀ (r : List Bs) (w : Bs), Lib.join (w :: r) [c] = glue c (w :: r)
  | [], w => Lib.join_one w [c]
  | v :: r, w => by
    rw [glue_cons, ← join_glue c r v, Lib.join_cons, Lib.join_cons]
    simp [Lib.joinTail]
theorem glue_end (c : UInt8) : ∀ (r : List Bs) (w : Bs), glue c (w :: r) ++ [c] = glue c (w :: (r ++ [[]]))
  | [], w => by simp [glue_cons, glue_one]
  | v :: r, w => by
    rw [glue_cons, List.append_assoc, List.cons_append, glue_end c r v]
    rfl
theorem glue_no {c d : UInt8} (hcd : d ≠ c) : ∀ {r : List Bs} {w : Bs}, (∀ x ∈ w :: r, d ∉ x) → d ∉ glue c (w :: r)
  | [], w, h => h w List.mem_cons_self
  | v :: r, w, h => by
    rw [glue_cons]
    have ih := glue_no hcd (r := r) (w := v) fun x hx => h x (List.mem_cons_of_mem _ hx)
    have h0 := h w List.mem_cons_self
    simp [h0, hcd, ih]

/- NUMBERS -/
def isDig (b : UInt8) : Bool := Nat.ble 48 b.toNat && Nat.ble b.toNat 57
def valB (x : Bs) : Nat := x.foldl (fun n b => 10 * n + (b.toNat - 48)) 0
def numB (x : Bs) : Bool := x.all isDig && (Nat.ble x.length 3 && (!x.isEmpty && (digs 9 (valB x) == x)))
def dec (n : Int) : Bs := digs 9 n.toNat
def okN (n : Int) : Prop := 0 ≤ n ∧ n ≤ 999

theorem digs_all : ∀ n, n < 1000 → (numB (digs 9 n) && (Nat.beq (valB (digs 9 n)) n && ((digs 9 n).all isDig && Nat.ble (digs 9 n).length 3))) = true := by decide +kernel
theorem digs_two : ∀ n, n < 100 → Nat.ble (digs 9 n).length 2 = true := by decide +kernel
theorem digs_one : ∀ n, n < 10 → digs 9 n = [UInt8.ofNat (48 + n)] := by decide +kernel
theorem dec_num {n : Int} (h : okN n) : numB (dec n) = true ∧ (valB (dec n) : Int) = n ∧ (dec n).length ≤ 3 ∧ (dec n).all isDig = true := by
  have := digs_all n.toNat (by have := h.2; omega)
  simp only [Bool.and_eq_true] at this
  obtain ⟨h1, h2, h3, h4⟩ := this
  refine ⟨h1, ?_, Nat.le_of_ble_eq_true h4, h3⟩
  have := Nat.eq_of_beq_eq_true h2
  have h0 := h.1
  unfold dec
  omega
theorem dig_no {x : Bs} (h : x.all isDig = true) {c : UInt8} (hc : isDig c = false) : c ∉ x := by
  intro hm
  have := List.all_eq_true.1 h c hm
  rw [hc] at this; cases this
theorem dig_le {b : UInt8} (h : isDig b = true) : 48 ≤ b.toNat ∧ b.toNat ≤ 57 := by
  unfold isDig at h
  rw [Bool.and_eq_true] at h
  exact ⟨Nat.le_of_ble_eq_true h.1, Nat.le_of_ble_eq_true h.2⟩
theorem val_le : ∀ (x : Bs) (a k : Nat), x.all isDig = true → a < 10 ^ k → x.foldl (fun n b => 10 * n + (b.toNat - 48)) a < 10 ^ (k + x.length)
  | [], a, k, _, ha => by simpa using ha
  | b :: x, a, k, h, ha => by
    simp only [List.all_cons, Bool.and_eq_true] at h
    have hb := dig_le h.1
    have := val_le x (10 * a + (b.toNat - 48)) (k + 1) h.2 (by rw [Nat.pow_succ]; omega)
    rw [List.foldl_cons, List.length_cons, show k + (x.length + 1) = k + 1 + x.length by omega]
    exact this
theorem num_ok {x : Bs} (h : numB x = true) : okN (valB x) := by
  unfold numB at h
  simp only [Bool.and_eq_true] at h
  obtain ⟨h1, h2, _⟩ := h
  have h3 := Nat.le_of_ble_eq_true h2
  have := val_le x 0 0 h1 (by simp)
  have h4 : 10 ^ (0 + x.length) ≤ 10 ^ 3 := Nat.pow_le_pow_right (by omega) (by omega)
  unfold okN valB
  omega

/- WORDS -/
def wPrice : Bs := [112, 114, 105, 99, 101]
def wOwner : Bs := [111, 119, 110, 101, 114]
def wBoard : Bs := [98, 111, 97, 114, 100]
def wLetter : Bs := [108, 101, 116, 116, 101, 114]
def wFoot : Bs := [102, 111, 111, 116]
def wHour : Bs := [104, 111, 117, 114]
def wFriend : Bs := [102, 114, 105, 101, 110, 100]
def wDown : Bs := [100, 111, 119, 110]
def wUp : Bs := [117, 112]
def wNear : Bs := [110, 101, 97, 114]
def wEven : Bs := [101, 118, 101, 110]
def wAll : Bs := [97, 108, 108]
def wEach : Bs := [101, 97, 99, 104]
def kindW (k : Int) : Bs := if k = 1 then wLetter else if k = 2 then wFoot else if k = 3 then wHour else wFriend
def ruleW (r : Int) : Bs := if r = 1 then wDown else if r = 2 then wUp else if r = 3 then wNear else wEven
def whenW (e : Bool) : Bs := match e with | true => wEach | false => wAll
def wordList : List Bs := [wOwner, wBoard, wLetter, wFoot, wHour, wFriend]
def ruleList : List Bs := [wDown, wUp, wNear, wEven]
/-- where a word is in a list; -1, if it is not -/
def pos (x : Bs) : List Bs → Nat → Int
  | [], _ => -1
  | w :: r, i => if w = x then (i : Int) else pos x r (i + 1)

inductive Item where
  | o (n : Int)
  | b (x : Board)
  | t (x : Tar)
def Item.ws : Item → List Bs
  | .o n => [wOwner, dec n]
  | .b x => [wBoard, dec x.L, dec x.F, dec x.lo, dec x.hi, dec x.ow]
  | .t x => [kindW x.kind, dec x.coins, dec x.units, ruleW x.rule, whenW x.each]
def okB (x : Board) : Prop := okN x.L ∧ okN x.F ∧ okN x.lo ∧ okN x.hi ∧ okN x.ow
def okT (x : Tar) : Prop := (1 ≤ x.kind ∧ x.kind ≤ 4) ∧ okN x.coins ∧ okN x.units ∧ (1 ≤ x.rule ∧ x.rule ≤ 4)
def Item.ok : Item → Prop
  | .o n => okN n
  | .b x => okB x
  | .t x => okT x
def numsB (ws : List Bs) (many : Nat) : Bool := Nat.beq ws.length many && ws.all numB
def vals (ws : List Bs) : List Int := ws.map fun x => (valB x : Int)
def tarP (k : Int) : List Bs → Option Tar
  | [_, a, b, r, e] => if numB a = true ∧ numB b = true ∧ 0 ≤ pos r ruleList 0 then some ⟨k - 1, valB a, valB b, 1 + pos r ruleList 0, decide (e = wEach)⟩ else none
  | _ => none
def numO : List Bs → Option Item
  | [a] => if numB a = true then some (.o (valB a)) else none
  | _ => none
def numX : List Bs → Option Item
  | [a, b, c, d, e] => if numB a = true ∧ numB b = true ∧ numB c = true ∧ numB d = true ∧ numB e = true then some (.b ⟨valB a, valB b, valB c, valB d, valB e⟩) else none
  | _ => none
def itemP (ws : List Bs) : Option Item :=
  if pos (ws.headD []) wordList 0 = -1 then none
  else if pos (ws.headD []) wordList 0 = 0 then numO ws.tail
  else if pos (ws.headD []) wordList 0 = 1 then numX ws.tail
  else (tarP (pos (ws.headD []) wordList 0) ws).map .t

theorem four_of {k : Int} (h : 1 ≤ k ∧ k ≤ 4) : k = 1 ∨ k = 2 ∨ k = 3 ∨ k = 4 := by omega
theorem item_back {it : Item} (h : it.ok) : itemP it.ws = some it := by
  cases it with
  | o n =>
    obtain ⟨h1, h2, _⟩ := dec_num h
    have e : pos wOwner wordList 0 = 0 := by decide +kernel
    simp [itemP, Item.ws, e, numO, h1, h2]
  | b x =>
    obtain ⟨a, b, c, d, e⟩ := x
    obtain ⟨ha, hb, hc, hd, he⟩ := h
    have e0 : pos wBoard wordList 0 = 1 := by decide +kernel
    have a1 := dec_num ha; have b1 := dec_num hb; have c1 := dec_num hc; have d1 := dec_num hd; have e1 := dec_num he
    simp at a1 b1 c1 d1 e1
    simp [itemP, Item.ws, e0, numX, a1, b1, c1, d1, e1]
  | t x =>
    obtain ⟨k, c, u, r, e⟩ := x
    obtain ⟨hk, hc, hu, hr⟩ := h
    have c1 := dec_num hc; have u1 := dec_num hu
    simp at c1 u1
    have q : ∃ i : Int, pos (ruleW r) ruleList 0 = i ∧ 0 ≤ i ∧ 1 + i = r := by
      rcases four_of hr with h | h | h | h <;> simp only at h <;> subst h
      · exact ⟨0, by decide +kernel, by decide, by decide⟩
      · exact ⟨1, by decide +kernel, by decide, by decide⟩
      · exact ⟨2, by decide +kernel, by decide, by decide⟩
      · exact ⟨3, by decide +kernel, by decide, by decide⟩
    have p : ∃ i : Int, pos (kindW k) wordList 0 = i ∧ 2 ≤ i ∧ i - 1 = k := by
      rcases four_of hk with h | h | h | h <;> simp only at h <;> subst h
      · exact ⟨2, by decide +kernel, by decide, by decide⟩
      · exact ⟨3, by decide +kernel, by decide, by decide⟩
      · exact ⟨4, by decide +kernel, by decide, by decide⟩
      · exact ⟨5, by decide +kernel, by decide, by decide⟩
    obtain ⟨i, q1, q2, q3⟩ := q
    obtain ⟨j, p1, p2, p3⟩ := p
    have w : decide (whenW e = wEach) = e := by cases e <;> decide +kernel
    have z1 : ¬ j = -1 := by omega
    have z2 : ¬ j = 0 := by omega
    have z3 : ¬ j = 1 := by omega
    simp [itemP, Item.ws, p1, tarP, q1, q2, q3, p3, c1, u1, z1, z2, z3]
    cases e <;> decide +kernel

theorem pos_lt (x : Bs) : ∀ (l : List Bs) (i : Nat), pos x l i = -1 ∨ ((i : Int) ≤ pos x l i ∧ pos x l i < i + l.length)
  | [], _ => .inl rfl
  | w :: r, i => by
    unfold pos
    split
    · right; simp; omega
    · rcases pos_lt x r (i + 1) with h | h
      · exact .inl h
      · right; simp at h ⊢; omega
theorem item_ok {ws : List Bs} {it : Item} (h : itemP ws = some it) : it.ok := by
  unfold itemP at h
  have hp := pos_lt (ws.headD []) wordList 0
  have hl : wordList.length = 6 := rfl
  rw [hl] at hp
  generalize pos (ws.headD []) wordList 0 = p at h hp
  split at h
  · cases h
  · split at h
    · unfold numO at h
      split at h
      · split at h
        · cases h; exact num_ok ‹_›
        · cases h
      · cases h
    · split at h
      · unfold numX at h
        split at h
        · split at h
          · rename_i q
            cases h
            exact ⟨num_ok q.1, num_ok q.2.1, num_ok q.2.2.1, num_ok q.2.2.2.1, num_ok q.2.2.2.2⟩
          · cases h
        · cases h
      · unfold tarP at h
        split at h
        · rename_i w a b r e
          have hr := pos_lt r ruleList 0
          have hl : ruleList.length = 4 := rfl
          rw [hl] at hr
          split at h
          · rename_i q
            simp at h
            subst h
            refine ⟨⟨?_, ?_⟩, num_ok q.1, num_ok q.2.1, ⟨?_, ?_⟩⟩ <;> simp only <;> omega
          · simp at h
        · simp at h

/- SHEETS OUT OF ITEMS -/
def Item.o? : Item → Option Int
  | .o n => some n
  | _ => none
def Item.b? : Item → Option Board
  | .b n => some n
  | _ => none
def Item.t? : Item → Option Tar
  | .t n => some n
  | _ => none
def sheetOf (l : List Item) : Sheet := ⟨l.filterMap Item.o?, l.filterMap Item.b?, l.filterMap Item.t?⟩
def itemsOfS (s : Sheet) : List Item := s.offs.map .o ++ s.boards.map .b ++ s.tars.map .t
theorem fm_some {α β γ : Type} (f : α → β) (g : β → Option γ) (h : α → γ) (e : ∀ x, g (f x) = some (h x)) (l : List α) : (l.map f).filterMap g = l.map h := by
  rw [List.filterMap_map]
  induction l with
  | nil => rfl
  | cons x l ih => rw [List.filterMap_cons, List.map_cons, ih]; simp [e]
theorem fm_none {α β γ : Type} (f : α → β) (g : β → Option γ) (e : ∀ x, g (f x) = none) (l : List α) : (l.map f).filterMap g = [] := by
  rw [List.filterMap_map]
  induction l with
  | nil => rfl
  | cons x l ih => rw [List.filterMap_cons, ih]; simp [e]
theorem sheet_items (s : Sheet) : sheetOf (itemsOfS s) = s := by
  obtain ⟨a, b, c⟩ := s
  unfold sheetOf itemsOfS
  simp only [List.filterMap_append]
  rw [fm_some Item.o Item.o? id (fun _ => rfl), fm_none Item.b Item.o? (fun _ => rfl), fm_none Item.t Item.o? (fun _ => rfl), fm_none Item.o Item.b? (fun _ => rfl), fm_some Item.b Item.b? id (fun _ => rfl), fm_none Item.t Item.b? (fun _ => rfl),
    fm_none Item.o Item.t? (fun _ => rfl), fm_none Item.b Item.t? (fun _ => rfl), fm_some Item.t Item.t? id (fun _ => rfl)]
  simp

/-- numbers of at most three digits, and words that there are -/
structure okS (s : Sheet) : Prop where
  offs : ∀ n ∈ s.offs, okN n
  boards : ∀ x ∈ s.boards, okB x
  tars : ∀ x ∈ s.tars, okT x
theorem okS.items {s : Sheet} (h : okS s) : ∀ it ∈ itemsOfS s, it.ok := by
  intro it hm
  unfold itemsOfS at hm
  simp only [List.mem_append, List.mem_map] at hm
  rcases hm with (⟨n, hn, rfl⟩ | ⟨n, hn, rfl⟩) | ⟨n, hn, rfl⟩
  · exact h.offs n hn
  · exact h.boards n hn
  · exact h.tars n hn
theorem okS_of {l : List Item} (h : ∀ it ∈ l, it.ok) : okS (sheetOf l) := by
  refine ⟨fun n hn => ?_, fun n hn => ?_, fun n hn => ?_⟩ <;> simp only [sheetOf, List.mem_filterMap] at hn <;> obtain ⟨it, hm, e⟩ := hn <;> have := h it hm <;> cases it <;> simp [Item.o?, Item.b?, Item.t?] at e <;> subst e <;> exact this

/- THE TEXT -/
/-- what a row adds to the check: a byte is worth its number by its place and its row's -/
def ckR (i : Nat) : Nat → Bs → Nat
  | _, [] => 0
  | k, b :: r => b.toNat * (k + 1) * (i + 1) + ckR i (k + 1) r
def ckN : Nat → List Bs → Nat
  | _, [] => 0
  | i, r :: rs => ckR i 0 r + ckN (i + 1) rs
def endB (c : Nat) : Bs := [101, 110, 100, 32] ++ digs 9 (c / 100) ++ digs 9 (c / 10 % 10) ++ digs 9 (c % 10)
def rowB (it : Item) : Bs := glue 32 it.ws
def rowsB (s : Sheet) : List Bs := wPrice :: (itemsOfS s).map rowB
def lastB (s : Sheet) : Bs := endB (ckN 0 (rowsB s) % 211)
def textB (s : Sheet) : Bs := Lib.join (rowsB s ++ [lastB s]) [10] ++ [10]

def Wd (w : Bs) : Prop := (32 : UInt8) ∉ w ∧ (10 : UInt8) ∉ w
theorem dec_wd {n : Int} (h : okN n) : Wd (dec n) := by
  obtain ⟨_, _, _, h4⟩ := dec_num h
  exact ⟨dig_no h4 (by decide), dig_no h4 (by decide)⟩
theorem kind_wd (k : Int) : Wd (kindW k) := by unfold kindW Wd; split; decide; split; decide; split <;> decide
theorem rule_wd (k : Int) : Wd (ruleW k) := by unfold ruleW Wd; split; decide; split; decide; split <;> decide
theorem when_wd (e : Bool) : Wd (whenW e) := by cases e <;> (unfold Wd; decide)
theorem ws_wd {it : Item} (h : it.ok) : ∀ x ∈ it.ws, Wd x := by
  intro x hx
  cases it with
  | o n =>
    simp [Item.ws] at hx
    rcases hx with rfl | rfl
    · unfold Wd; decide
    · exact dec_wd h
  | b y =>
    obtain ⟨h1, h2, h3, h4, h5⟩ := h
    simp [Item.ws] at hx
    rcases hx with rfl | rfl | rfl | rfl | rfl | rfl
    · unfold Wd; decide
    all_goals (first | exact dec_wd h1 | exact dec_wd h2 | exact dec_wd h3 | exact dec_wd h4 | exact dec_wd h5)
  | t y =>
    obtain ⟨h1, h2, h3, h4⟩ := h
    simp [Item.ws] at hx
    rcases hx with rfl | rfl | rfl | rfl | rfl
    · exact kind_wd _
    · exact dec_wd h2
    · exact dec_wd h3
    · exact rule_wd _
    · exact when_wd _
theorem ws_ne (it : Item) : ∃ w r, it.ws = w :: r := by cases it <;> exact ⟨_, _, rfl⟩
theorem row_cut {it : Item} (h : it.ok) : cutAt 32 (rowB it) = it.ws := by
  have hw := ws_wd h
  obtain ⟨w, r, e⟩ := ws_ne it
  unfold rowB
  rw [e] at hw ⊢
  exact cut_glue fun x hx => (hw x hx).1
theorem row_no {it : Item} (h : it.ok) : (10 : UInt8) ∉ rowB it := by
  have hw := ws_wd h
  obtain ⟨w, r, e⟩ := ws_ne it
  unfold rowB
  rw [e] at hw ⊢
  exact glue_no (by decide) fun x hx => (hw x hx).2
theorem check_lt (s : Sheet) : ckN 0 (rowsB s) % 211 < 211 := Nat.mod_lt _ (by omega)
theorem end_no : ∀ c, c < 211 → ((endB c).all (fun b => !(b == 10)) && Nat.beq (endB c).length 7) = true := by decide +kernel
theorem last_no (s : Sheet) : (10 : UInt8) ∉ lastB s ∧ (lastB s).length = 7 := by
  have := end_no _ (check_lt s)
  rw [Bool.and_eq_true] at this
  refine ⟨fun hm => ?_, Nat.eq_of_beq_eq_true this.2⟩
  have := List.all_eq_true.1 this.1 _ hm
  simp at this
theorem text_cut {s : Sheet} (h : okS s) : cutAt 10 (textB s) = wPrice :: ((itemsOfS s).map rowB ++ [lastB s, []]) := by
  unfold textB rowsB
  rw [List.cons_append, join_glue, glue_end, cut_glue]
  · simp
  · intro x hx
    simp only [List.append_assoc, List.mem_cons, List.mem_append, List.mem_map, List.cons_append, List.nil_append] at hx
    rcases hx with rfl | ⟨it, hm, rfl⟩ | rfl | rfl | hx
    · decide
    · exact row_no (h.items it hm)
    · exact (last_no s).1
    · simp
    · simp at hx

/- READING -/
def itemsP : List Bs → Option (List Item)
  | [] => some []
  | r :: l => match itemP (cutAt 32 r) with
    | none => none
    | some it => match itemsP l with
      | none => none
      | some its => some (it :: its)
def midB (t : Bs) : List Bs := ((cutAt 10 t).drop 1).take ((cutAt 10 t).length - 3)
def parseB (t : Bs) : Option Sheet :=
  if (cutAt 10 t).length < 3 then none else
  match itemsP (midB t) with
  | none => none
  | some l => if textB (sheetOf l) = t then some (sheetOf l) else none
theorem items_back : ∀ {l : List Item}, (∀ it ∈ l, it.ok) → itemsP (l.map rowB) = some l
  | [], _ => rfl
  | it :: l, h => by
    have h0 := h it List.mem_cons_self
    rw [List.map_cons]
    unfold itemsP
    rw [row_cut h0, item_back h0]
    simp only
    rw [items_back fun x hx => h x (List.mem_cons_of_mem _ hx)]
theorem items_ok : ∀ {rs : List Bs} {l : List Item}, itemsP rs = some l → ∀ it ∈ l, it.ok
  | [], l, h => by
    have : l = [] := by simpa [itemsP] using h.symm
    subst this; intro it hm; cases hm
  | r :: rs, l, h => by
    unfold itemsP at h
    cases h1 : itemP (cutAt 32 r) with
    | none => rw [h1] at h; cases h
    | some it =>
      rw [h1] at h
      cases h2 : itemsP rs with
      | none => rw [h2] at h; cases h
      | some its =>
        rw [h2] at h
        cases h
        intro x hx
        rcases List.mem_cons.1 hx with rfl | hx
        · exact item_ok h1
        · exact items_ok h2 x hx
theorem mid_text {s : Sheet} (h : okS s) : (cutAt 10 (textB s)).length = (itemsOfS s).length + 3 ∧ midB (textB s) = (itemsOfS s).map rowB := by
  unfold midB
  rw [text_cut h]
  refine ⟨by simp, ?_⟩
  simp
theorem parse_text {s : Sheet} (h : okS s) : parseB (textB s) = some s := by
  obtain ⟨h1, h2⟩ := mid_text h
  unfold parseB
  rw [h1, h2, items_back h.items, if_neg (by omega)]
  simp only
  rw [sheet_items, if_pos rfl]
theorem parse_ok {t : Bs} {s : Sheet} (h : parseB t = some s) : okS s ∧ textB s = t := by
  unfold parseB at h
  split at h
  · cases h
  · cases h1 : itemsP (midB t) with
    | none => rw [h1] at h; cases h
    | some l =>
      rw [h1] at h
      simp only at h
      split at h
      · cases h
        exact ⟨okS_of (items_ok h1), ‹_›⟩
      · cases h
end Go.Am

/- Texts of sheets, plainly: how long they are; what a check can come to; runes that are digits. -/
namespace Go.Am
open Go Go.Proofs

theorem Sheet.okB_iff {s : Sheet} : s.ok = true ↔ ((1 ≤ s.offs.length ∧ s.offs.length ≤ 3) ∧ (1 ≤ s.boards.length ∧ s.boards.length ≤ 4) ∧ (1 ≤ s.tars.length ∧ s.tars.length ≤ 3)) ∧ (∀ x ∈ s.offs, inP x 0 100 = true) ∧ (∀ b ∈ s.boards, b.ok s.offs.length = true) ∧ ∀ t ∈ s.tars, t.ok = true := by
  have hx : ∀ {α : Type} (l : List α) (p : α → Bool), (!l.any fun x => !p x) = true ↔ ∀ x ∈ l, p x = true := by intro α l p; simp
  unfold Sheet.ok
  simp only [Bool.and_eq_true, hx]
  constructor
  · rintro ⟨h1, h2, h3, h4, h5, h6⟩
    have h1 := of_decide_eq_true h1
    have h2 := of_decide_eq_true h2
    have h3 := of_decide_eq_true h3
    exact ⟨by omega, h4, h5, h6⟩
  · rintro ⟨h1, h4, h5, h6⟩
    exact ⟨decide_eq_true (by omega), decide_eq_true (by omega), decide_eq_true (by omega), h4, h5, h6⟩

/- HOW LONG -/
theorem glue_len (c : UInt8) : ∀ (r : List Bs) (w : Bs), (glue c (w :: r)).length = w.length + (r.map fun x => x.length + 1).sum
  | [], w => by simp [glue_one]
  | v :: r, w => by
    rw [glue_cons, List.length_append, List.length_cons, glue_len c r v]
    simp; omega
theorem kind_len (k : Int) : (kindW k).length ≤ 6 := by unfold kindW; split; decide; split; decide; split <;> decide
theorem rule_len (k : Int) : (ruleW k).length ≤ 4 := by unfold ruleW; split; decide; split; decide; split <;> decide
theorem when_len (e : Bool) : (whenW e).length ≤ 4 := by cases e <;> decide
theorem row_len {it : Item} (h : it.ok) : (rowB it).length ≤ 25 := by
  cases it with
  | o n =>
    have := (dec_num h).2.2.1
    simp [rowB, Item.ws, glue_len, wOwner]; omega
  | b x =>
    obtain ⟨h1, h2, h3, h4, h5⟩ := h
    have := (dec_num h1).2.2.1; have := (dec_num h2).2.2.1; have := (dec_num h3).2.2.1; have := (dec_num h4).2.2.1; have := (dec_num h5).2.2.1
    simp [rowB, Item.ws, glue_len, wBoard]; omega
  | t x =>
    obtain ⟨h1, h2, h3, h4⟩ := h
    have := (dec_num h2).2.2.1; have := (dec_num h3).2.2.1; have := kind_len x.kind; have := rule_len x.rule; have := when_len x.each
    simp [rowB, Item.ws, glue_len]; omega
theorem rows_len {s : Sheet} (h : okS s) : ∀ r ∈ rowsB s, r.length ≤ 25 := by
  intro r hr
  unfold rowsB at hr
  simp only [List.mem_cons, List.mem_map] at hr
  rcases hr with rfl | ⟨it, hm, rfl⟩
  · decide
  · exact row_len (h.items it hm)
theorem items_count (s : Sheet) : (itemsOfS s).length = s.offs.length + s.boards.length + s.tars.length := by simp [itemsOfS]; omega
theorem rows_count (s : Sheet) : (rowsB s).length = 1 + s.offs.length + s.boards.length + s.tars.length := by simp [rowsB, items_count]; omega

theorem dec_two {n : Int} (h : 0 ≤ n ∧ n < 100) : (dec n).length ≤ 2 := Nat.le_of_ble_eq_true (digs_two n.toNat (by omega))
theorem dec_one {n : Int} (h : 0 ≤ n ∧ n < 10) : (dec n).length = 1 := by
  unfold dec; rw [digs_one n.toNat (by omega)]; rfl
theorem sum_le {α : Type} (f : α → Nat) (m : Nat) : ∀ (l : List α), (∀ x ∈ l, f x ≤ m) → (l.map f).sum ≤ l.length * m
  | [], _ => by simp
  | x :: l, h => by
    have h0 := h x List.mem_cons_self
    have := sum_le f m l fun y hy => h y (List.mem_cons_of_mem _ hy)
    rw [List.map_cons, List.sum_cons, List.length_cons, Nat.add_mul, Nat.one_mul]; omega
theorem text_len {s : Sheet} (h : s.ok = true) : (textB s).length ≤ 210 := by
  obtain ⟨⟨l1, l2, l3⟩, h1, h2, h3⟩ := Sheet.okB_iff.1 h
  have e : (textB s).length = 5 + ((itemsOfS s).map fun it => (rowB it).length + 1).sum + 9 := by
    have e7 := (last_no s).2
    unfold textB rowsB
    rw [List.cons_append, join_glue, List.length_append, glue_len, List.map_append, List.sum_append, List.map_map]
    simp [e7, wPrice, Function.comp_def]
    omega
  have a1 : ((s.offs.map Item.o).map fun it => (rowB it).length + 1).sum ≤ s.offs.length * 10 := by
    rw [List.map_map]
    refine sum_le _ _ _ fun n hn => ?_
    have := of_decide_eq_true (h1 n hn)
    have q := (dec_num (n := n) ⟨by omega, by omega⟩).2.2.1
    simp [rowB, Item.ws, glue_len, wOwner]; omega
  have a2 : ((s.boards.map Item.b).map fun it => (rowB it).length + 1).sum ≤ s.boards.length * 20 := by
    rw [List.map_map]
    refine sum_le _ _ _ fun n hn => ?_
    have := h2 n hn
    unfold Board.ok at this
    have := of_decide_eq_true this
    have q1 := dec_two (n := n.L) (by omega); have q2 := dec_two (n := n.F) (by omega); have q3 := dec_two (n := n.lo) (by omega); have q4 := dec_two (n := n.hi) (by omega); have q5 := dec_one (n := n.ow) (by omega)
    simp [rowB, Item.ws, glue_len, wBoard]; omega
  have a3 : ((s.tars.map Item.t).map fun it => (rowB it).length + 1).sum ≤ s.tars.length * 24 := by
    rw [List.map_map]
    refine sum_le _ _ _ fun n hn => ?_
    have := h3 n hn
    unfold Tar.ok at this
    have := of_decide_eq_true this
    have q1 := (dec_num (n := n.coins) ⟨by omega, by omega⟩).2.2.1; have q2 := dec_two (n := n.units) (by omega)
    have := kind_len n.kind; have := rule_len n.rule; have := when_len n.each
    simp [rowB, Item.ws, glue_len]; omega
  rw [e]
  unfold itemsOfS
  rw [List.map_append, List.map_append, List.sum_append, List.sum_append]
  omega
theorem ok_okS {s : Sheet} (h : s.ok = true) : okS s := by
  obtain ⟨⟨l1, l2, l3⟩, h1, h2, h3⟩ := Sheet.okB_iff.1 h
  refine ⟨fun n hn => ?_, fun n hn => ?_, fun n hn => ?_⟩
  · have := of_decide_eq_true (h1 n hn)
    exact ⟨by omega, by omega⟩
  · have := h2 n hn
    unfold Board.ok at this
    have := of_decide_eq_true this
    refine ⟨⟨?_, ?_⟩, ⟨?_, ?_⟩, ⟨?_, ?_⟩, ⟨?_, ?_⟩, ⟨?_, ?_⟩⟩ <;> omega
  · have := h3 n hn
    unfold Tar.ok at this
    have := of_decide_eq_true this
    refine ⟨⟨?_, ?_⟩, ⟨?_, ?_⟩, ⟨?_, ?_⟩, ⟨?_, ?_⟩⟩ <;> omega

/- THE CHECK -/
theorem ckR_le (i : Nat) (hi : i < 4096) : ∀ (r : Bs) (k : Nat), k + r.length ≤ 64 → ckR i k r ≤ r.length * 66846720
  | [], k, _ => by simp [ckR]
  | b :: r, k, h => by
    have ih := ckR_le i hi r (k + 1) (by simp at h; omega)
    have h1 : b.toNat * (k + 1) ≤ 255 * 64 := Nat.mul_le_mul (by have := b.toNat_lt; omega) (by simp at h; omega)
    have h2 : b.toNat * (k + 1) * (i + 1) ≤ 255 * 64 * 4096 := Nat.mul_le_mul h1 (by omega)
    unfold ckR
    rw [List.length_cons, Nat.add_mul, Nat.one_mul]; omega
theorem ckN_le : ∀ (rs : List Bs) (i : Nat), (∀ r ∈ rs, r.length ≤ 64) → i + rs.length ≤ 4096 → ckN i rs ≤ rs.length * 4278190080
  | [], i, _, _ => by simp [ckN]
  | r :: rs, i, h, hi => by
    have ih := ckN_le rs (i + 1) (fun x hx => h x (List.mem_cons_of_mem _ hx)) (by simp at hi; omega)
    have h0 := h r List.mem_cons_self
    have h1 := ckR_le i (by simp at hi; omega) r 0 (by omega)
    have h2 : r.length * 66846720 ≤ 64 * 66846720 := Nat.mul_le_mul_right _ h0
    unfold ckN
    rw [List.length_cons, Nat.add_mul, Nat.one_mul]; omega

/- RUNES -/
def bs (l : Bs) : ByteArray := ⟨⟨l⟩⟩
theorem bs_size (l : Bs) : (bs l).size = l.length := rfl
theorem bs_get {l : Bs} {k : Nat} {b : UInt8} (h : l[k]? = some b) : (bs l).get! k = b := by
  obtain ⟨hk, e⟩ := List.getElem?_eq_some_iff.1 h
  show (bs l).data[k]! = b
  have hk' : k < (bs l).data.size := hk
  rw [getElem!_pos (bs l).data k hk']
  exact e
theorem decode_dig {l : Bs} {k : Nat} {b : UInt8} (h : l[k]? = some b) (hd : isDig b = true) : Utf8.decode (bs l) k = (b.toNat, 1) := by
  have hb := dig_le hd
  rw [Lib.decode_at, bs_get h]
  unfold Lib.decodeN
  rw [if_pos (by omega)]
theorem decode_not {l : Bs} {k : Nat} {b : UInt8} (h : l[k]? = some b) (hd : isDig b = false) : (Utf8.decode (bs l) k).1 < 48 ∨ 57 < (Utf8.decode (bs l) k).1 := by
  have hb : b.toNat < 48 ∨ 57 < b.toNat := by
    unfold isDig at hd
    rw [Bool.and_eq_false_iff] at hd
    rcases hd with q | q
    · left; rcases Nat.lt_or_ge b.toNat 48 with r | r
      · exact r
      · rw [Nat.ble_eq_true_of_le r] at q; cases q
    · right; rcases Nat.lt_or_ge 57 b.toNat with r | r
      · exact r
      · rw [Nat.ble_eq_true_of_le r] at q; cases q
  rw [Lib.decode_at, bs_get h]
  unfold Lib.decodeN
  repeat' split
  all_goals simp only
  all_goals omega
theorem val_snoc {x : Bs} {k : Nat} {b : UInt8} (h : x[k]? = some b) : valB (x.take (k + 1)) = 10 * valB (x.take k) + (b.toNat - 48) := by
  obtain ⟨hk, e⟩ := List.getElem?_eq_some_iff.1 h
  rw [List.take_succ_eq_append_getElem hk, e]
  unfold valB
  rw [List.foldl_append]; rfl
theorem dig_snoc {x : Bs} {k : Nat} {b : UInt8} (h : x[k]? = some b) (hd : isDig b = true) (ha : (x.take k).all isDig = true) : (x.take (k + 1)).all isDig = true := by
  obtain ⟨hk, e⟩ := List.getElem?_eq_some_iff.1 h
  rw [List.take_succ_eq_append_getElem hk, e, List.all_append, ha]
  simp [hd]
end Go.Am
