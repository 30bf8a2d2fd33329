/- Parts 134 of the abstract machine over this program, joined: what each part says stands at its head. -/
import Derived.Test.YtfnkjclplfhjcaaGreatDoorJ127
set_option linter.unusedSimpArgs false
set_option linter.unusedVariables false
/- Texts of sheets, plainly: how the specification reads them, and that it reads the same. -/
namespace Go.Am
open Go Go.Proofs

/-- a number in decimal, perhaps with a minus sign -/
def decZ (n : Int) : Bs := if n < 0 then 45 :: dec (-n) else dec n
/-- the sign of a word, and what is behind it -/
def signB : Bs → Int × Bs
  | [] => (1, [])
  | b :: r => if b = 45 then (-1, r) else (1, b :: r)
def numZ (x : Bs) : Option Int :=
  if ((signB x).2.all isDig && (Nat.ble 1 (signB x).2.length && Nat.ble (signB x).2.length 3)) = true ∧ decZ ((signB x).1 * valB (signB x).2) = x then some ((signB x).1 * valB (signB x).2) else none
def numsZ : List Bs → Option (List Int)
  | [] => some []
  | x :: r => match numZ x with
    | none => none
    | some n => match numsZ r with
      | none => none
      | some l => some (n :: l)
def plainZ (ws : List Bs) : Option (List Int) := match numsZ ws with
  | none => none
  | some l => if l.all (fun n => decide (0 ≤ n)) = true then some l else none
theorem num_dig {x : Bs} (h : numB x = true) : x.all isDig = true ∧ 1 ≤ x.length ∧ x.length ≤ 3 ∧ dec (valB x) = x := by
  unfold numB at h
  simp only [Bool.and_eq_true] at h
  obtain ⟨h1, h2, h3, h4⟩ := h
  refine ⟨h1, ?_, Nat.le_of_ble_eq_true h2, by have := beq_iff_eq.1 h4; exact this⟩
  cases x with
  | nil => simp at h3
  | cons a l => simp
theorem num_of {x : Bs} (h1 : x.all isDig = true) (h2 : 1 ≤ x.length) (h3 : x.length ≤ 3) (h4 : dec (valB x) = x) : numB x = true := by
  unfold numB
  simp only [Bool.and_eq_true]
  refine ⟨h1, Nat.ble_eq_true_of_le h3, ?_, beq_iff_eq.2 h4⟩
  cases x with
  | nil => simp at h2
  | cons a l => rfl
theorem sign_dig {x : Bs} (h : x.all isDig = true) : signB x = (1, x) := by
  cases x with
  | nil => rfl
  | cons b r =>
    have : b ≠ 45 := by
      intro e
      simp only [List.all_cons, Bool.and_eq_true] at h
      rw [e] at h; exact absurd h.1 (by decide)
    show (if b = 45 then ((-1 : Int), r) else (1, b :: r)) = _
    rw [if_neg this]
theorem numZ_of {x : Bs} (h : numB x = true) : numZ x = some (valB x : Int) := by
  obtain ⟨h1, h2, h3, h4⟩ := num_dig h
  unfold numZ
  rw [sign_dig h1]
  simp only [Int.one_mul]
  have e : decZ (valB x : Int) = x := by unfold decZ; rw [if_neg (by omega)]; exact h4
  rw [if_pos ⟨by rw [h1, Nat.ble_eq_true_of_le h2, Nat.ble_eq_true_of_le h3]; rfl, e⟩]
theorem numZ_pos {x : Bs} {n : Int} (h : numZ x = some n) (h0 : 0 ≤ n) : numB x = true ∧ n = valB x := by
  unfold numZ at h
  split at h
  · rename_i q
    obtain ⟨q1, q2⟩ := q
    have e : (signB x).1 * (valB (signB x).2 : Int) = n := by simpa using h
    rw [e] at q2
    simp only [Bool.and_eq_true] at q1
    obtain ⟨a1, a2, a3⟩ := q1
    have b2 := Nat.le_of_ble_eq_true a2
    have b3 := Nat.le_of_ble_eq_true a3
    cases x with
    | nil => simp [signB] at b2
    | cons b r =>
      by_cases hb : b = 45
      · exfalso
        have es : signB (b :: r) = (-1, r) := by show (if b = 45 then ((-1 : Int), r) else (1, b :: r)) = _; rw [if_pos hb]
        rw [es] at e a1
        simp only at e a1
        have hn : n = 0 := by omega
        rw [hn] at q2
        have : decZ 0 = [48] := by decide +kernel
        rw [this] at q2
        rw [hb] at q2
        simp at q2
      · have es : signB (b :: r) = (1, b :: r) := by show (if b = 45 then ((-1 : Int), r) else (1, b :: r)) = _; rw [if_neg hb]
        rw [es] at e a1 b2 b3
        simp only [Int.one_mul] at e
        unfold decZ at q2
        rw [if_neg (by omega), ← e] at q2
        exact ⟨num_of a1 b2 b3 q2, e.symm⟩
  · cases h
theorem plain_good : ∀ {ws : List Bs}, ws.all numB = true → numsZ ws = some (vals ws) ∧ (vals ws).all (fun n => decide (0 ≤ n)) = true
  | [], _ => ⟨rfl, rfl⟩
  | x :: r, h => by
    simp only [List.all_cons, Bool.and_eq_true] at h
    obtain ⟨i1, i2⟩ := plain_good h.2
    refine ⟨?_, ?_⟩
    · unfold numsZ
      rw [numZ_of h.1, i1]
      rfl
    · unfold vals at i2 ⊢
      rw [List.map_cons, List.all_cons, i2]
      simp
theorem plain_bad : ∀ {ws : List Bs} {l : List Int}, numsZ ws = some l → l.all (fun n => decide (0 ≤ n)) = true → ws.all numB = true
  | [], _, _, _ => rfl
  | x :: r, l, h, hl => by
    unfold numsZ at h
    cases h1 : numZ x with
    | none => rw [h1] at h; cases h
    | some n =>
      rw [h1] at h
      cases h2 : numsZ r with
      | none => rw [h2] at h; cases h
      | some m =>
        rw [h2] at h
        cases h
        simp only [List.all_cons, Bool.and_eq_true, decide_eq_true_eq] at hl
        rw [List.all_cons, (numZ_pos h1 hl.1).1, plain_bad h2 hl.2]; rfl
theorem plain_eq (ws : List Bs) : plainZ ws = if ws.all numB = true then some (vals ws) else none := by
  by_cases h : ws.all numB = true
  · obtain ⟨h1, h2⟩ := plain_good h
    unfold plainZ
    rw [h1, if_pos h]
    simp only
    rw [if_pos h2]
  · rw [if_neg h]
    unfold plainZ
    cases h1 : numsZ ws with
    | none => rfl
    | some l =>
      simp only
      rw [if_neg fun h2 => h (plain_bad h1 h2)]

/- LINES -/
def kindList : List Bs := [[], wLetter, wFoot, wHour, wFriend]
def ruleList' : List Bs := [[], wDown, wUp, wNear, wEven]
def whenList : List Bs := [wAll, wEach]
/-- the words of a tariff, as the specification takes them -/
def refTar : List Bs → Option Tar
  | [w, a, b, r, e] => if (numB a = true ∧ numB b = true) ∧ 1 ≤ pos w kindList 0 ∧ 1 ≤ pos r ruleList' 0 ∧ 0 ≤ pos e whenList 0 then some ⟨pos w kindList 0, valB a, valB b, pos r ruleList' 0, decide (pos e whenList 0 = 1)⟩ else none
  | _ => none
def refItem (ws : List Bs) : Option Item := match plainZ ws.tail with
  | some [n] => some (.o n)
  | some [a, b, c, d, e] => some (.b ⟨a, b, c, d, e⟩)
  | _ => (refTar ws).map .t
def refItems : List Bs → Option (List Item)
  | [] => some []
  | r :: l => match refItem (cutAt 32 r) with
    | none => none
    | some it => match refItems l with
      | none => none
      | some its => some (it :: its)
def refParse (t : Bs) : Option Sheet := match refItems (midB t) with
  | none => none
  | some l => if textB (sheetOf l) = t then some (sheetOf l) else none
theorem ref_back {it : Item} (h : it.ok) : refItem it.ws = some it := by
  cases it with
  | o n =>
    obtain ⟨h1, h2, _⟩ := dec_num h
    have e : plainZ [dec n] = some [n] := by rw [plain_eq]; simp [h1, vals, h2]
    unfold refItem
    show (match plainZ [dec n] with | some [n] => some (Item.o n) | some [a, b, c, d, e] => some (Item.b ⟨a, b, c, d, e⟩) | _ => (refTar [wOwner, dec n]).map .t) = _
    rw [e]
  | b x =>
    obtain ⟨a, b, c, d, e⟩ := x
    obtain ⟨ha, hb, hc, hd, he⟩ := h
    have a1 := dec_num ha; have b1 := dec_num hb; have c1 := dec_num hc; have d1 := dec_num hd; have e1 := dec_num he
    simp only at a1 b1 c1 d1 e1
    have ep : plainZ [dec a, dec b, dec c, dec d, dec e] = some [a, b, c, d, e] := by rw [plain_eq]; simp [a1.1, b1.1, c1.1, d1.1, e1.1, vals, a1.2.1, b1.2.1, c1.2.1, d1.2.1, e1.2.1]
    unfold refItem
    show (match plainZ [dec a, dec b, dec c, dec d, dec e] with | some [n] => some (Item.o n) | some [a, b, c, d, e] => some (Item.b ⟨a, b, c, d, e⟩) | _ => (refTar (Item.ws (.b ⟨a, b, c, d, e⟩))).map .t) = _
    rw [ep]
  | t x =>
    obtain ⟨k, c, u, r, e⟩ := x
    obtain ⟨hk, hc, hu, hr⟩ := h
    have c1 := dec_num hc; have u1 := dec_num hu
    simp only at c1 u1 hk hr
    have pk : pos (kindW k) kindList 0 = k := by rcases four_of hk with rfl | rfl | rfl | rfl <;> decide +kernel
    have pr : pos (ruleW r) ruleList' 0 = r := by rcases four_of hr with rfl | rfl | rfl | rfl <;> decide +kernel
    have pw : pos (whenW e) whenList 0 = if e then 1 else 0 := by cases e <;> decide +kernel
    have nr : numB (ruleW r) = false := by rcases four_of hr with rfl | rfl | rfl | rfl <;> decide +kernel
    have ep : plainZ [dec c, dec u, ruleW r, whenW e] = none := by rw [plain_eq]; simp [nr]
    unfold refItem
    show (match plainZ [dec c, dec u, ruleW r, whenW e] with | some [n] => some (Item.o n) | some [a, b, c, d, e] => some (Item.b ⟨a, b, c, d, e⟩) | _ => (refTar [kindW k, dec c, dec u, ruleW r, whenW e]).map .t) = _
    rw [ep]
    show Option.map Item.t (if (numB (dec c) = true ∧ numB (dec u) = true) ∧ 1 ≤ pos (kindW k) kindList 0 ∧ 1 ≤ pos (ruleW r) ruleList' 0 ∧ 0 ≤ pos (whenW e) whenList 0 then some (⟨pos (kindW k) kindList 0, valB (dec c), valB (dec u), pos (ruleW r) ruleList' 0, decide (pos (whenW e) whenList 0 = 1)⟩ : Tar) else none) = _
    rw [if_pos ⟨⟨c1.1, u1.1⟩, by rw [pk]; omega, by rw [pr]; omega, by rw [pw]; cases e <;> simp⟩, pk, pr, pw, c1.2.1, u1.2.1]
    cases e <;> rfl
theorem vals_ok {ws : List Bs} (h : ws.all numB = true) : ∀ n ∈ vals ws, okN n := by
  intro n hn
  obtain ⟨x, hx, rfl⟩ := List.mem_map.1 hn
  exact num_ok (List.all_eq_true.1 h x hx)
theorem ref_ok {ws : List Bs} {it : Item} (h : refItem ws = some it) : it.ok := by
  have tar : ∀ {it : Item}, (refTar ws).map .t = some it → it.ok := by
    intro it h
    unfold refTar at h
    split at h
    · rename_i w a b r e _
      split at h
      · rename_i q
        simp only [Option.map_some, Option.some.injEq] at h
        subst h
        have h1 := pos_lt w kindList 0
        have h2 := pos_lt r ruleList' 0
        have l1 : kindList.length = 5 := rfl
        have l2 : ruleList'.length = 5 := rfl
        rw [l1] at h1
        rw [l2] at h2
        have q1 := q.2.1
        have q2 := q.2.2.1
        refine ⟨⟨?_, ?_⟩, num_ok q.1.1, num_ok q.1.2, ?_, ?_⟩ <;> simp only <;> omega
      · simp at h
    · simp at h
  unfold refItem at h
  rw [plain_eq] at h
  by_cases hn : ws.tail.all numB = true
  · rw [if_pos hn] at h
    have hv := vals_ok hn
    generalize vals ws.tail = l at h hv
    match l, h, hv with
    | [n], h, hv =>
      simp only [Option.some.injEq] at h; subst h
      exact hv n (by simp)
    | [a, b, c, d, e], h, hv =>
      simp only [Option.some.injEq] at h; subst h
      exact ⟨hv a (by simp), hv b (by simp), hv c (by simp), hv d (by simp), hv e (by simp)⟩
    | [], h, _ => exact tar h
    | [_, _], h, _ => exact tar h
    | [_, _, _], h, _ => exact tar h
    | [_, _, _, _], h, _ => exact tar h
    | _ :: _ :: _ :: _ :: _ :: _ :: _, h, _ => exact tar h
  · rw [if_neg hn] at h
    exact tar h
theorem refs_back : ∀ {l : List Item}, (∀ it ∈ l, it.ok) → refItems (l.map rowB) = some l
  | [], _ => rfl
  | it :: l, h => by
    have h0 := h it List.mem_cons_self
    rw [List.map_cons]
    unfold refItems
    rw [row_cut h0, ref_back h0]
    simp only
    rw [refs_back fun x hx => h x (List.mem_cons_of_mem _ hx)]
theorem refs_ok : ∀ {rs : List Bs} {l : List Item}, refItems rs = some l → ∀ it ∈ l, it.ok
  | [], l, h => by
    have : l = [] := by simpa [refItems] using h.symm
    subst this; intro it hm; cases hm
  | r :: rs, l, h => by
    unfold refItems at h
    cases h1 : refItem (cutAt 32 r) with
    | none => rw [h1] at h; cases h
    | some it =>
      rw [h1] at h
      cases h2 : refItems rs with
      | none => rw [h2] at h; cases h
      | some its =>
        rw [h2] at h
        cases h
        intro x hx
        rcases List.mem_cons.1 hx with rfl | hx
        · exact ref_ok h1
        · exact refs_ok h2 x hx
theorem ref_parse (t : Bs) : refParse t = parseB t := by
  cases hp : parseB t with
  | some s =>
    obtain ⟨hs, rfl⟩ := parse_ok hp
    unfold refParse
    rw [(mid_text hs).2, refs_back hs.items]
    simp only
    rw [sheet_items, if_pos rfl]
  | none =>
    unfold refParse
    cases h1 : refItems (midB t) with
    | none => rfl
    | some l =>
      simp only
      split
      · rename_i e
        have := parse_text (okS_of (refs_ok h1))
        rw [e, hp] at this
        cases this
      · rfl
end Go.Am
