/- Parts 118 of the abstract machine over this program, joined: what each part says stands at its head. -/
import Derived.Test.YtfnkjclplfhjcaaGreatDoorJ112
set_option linter.unusedSimpArgs false
set_option linter.unusedVariables false
/- The abstract machine, part 118: range over functions, in equations; heaps that change at some places alone. -/
namespace Go.Am
open Go Go.Proofs

section
variable {C : Ctx} {rd : Option Nat} {k : List Item} {s : FrS} {h : Heap} {Q : FEnd → FrS → Heap → Prop}
theorem L_range (f : Operand) (params : Array Tmp) (assign body : Code) : Lim C rd (.code (.rangeFunc f params assign body) :: k) s h = stRange C (Lim C) rd params.toList assign body k s h (ev s.tmps f) := by rw [Lim_eq]; rfl
theorem L_begin {l : Nat} {r : ALoop} (hg : h.get l = some (.loop r)) (hr : isReady r.state = true) : Lim C (some l) (.beginRound :: k) s h = Lim C (some l) k s (h.set l (.loop (r.turn .busy r.pending))) := by
  rw [Lim_eq]
  show stBegin (Lim C) (some l) k s h = _
  unfold stBegin
  simp only [obind_some, hg, loopOf, hr, guardB_true]

theorem W_range {g : FuncId} {first cap : List Value} {params : List Tmp} {assign body : Code} {P : Value → Heap → Prop}
    (hc : CW C g (first ++ [.func (.yield (h.next + 1)) ⟨[]⟩ ⟨[]⟩] ++ cap) ((h.alloc (.deferred true)).alloc (.loop (loopRec s.tmps params assign body h.next))) P)
    (hw : ∀ v h', P v h' → ∃ r, h'.get (h.next + 1) = some (.loop r) ∧ isBusy r.state = false ∧
      W (Lim C none (itemsOf r.pending k) (s.mark [{ target := .collected h.next, args := ⟨[]⟩ }]) (h'.set (h.next + 1) (.loop (r.turn .exhausted r.pending)))) Q) :
    W (stRange C (Lim C) none params assign body k s h (.func (.func g) ⟨first⟩ ⟨cap⟩)) Q := by
  obtain ⟨v, h', e, hp⟩ := hc
  obtain ⟨r, hg, hb, hw⟩ := hw v h' hp
  have : stRange C (Lim C) none params assign body k s h (.func (.func g) ⟨first⟩ ⟨cap⟩) = Lim C none (itemsOf r.pending k) (s.mark [{ target := .collected h.next, args := ⟨[]⟩ }]) (h'.set (h.next + 1) (.loop (r.turn .exhausted r.pending))) := by
    unfold stRange
    simp only [enterLoopA, obind_some, applyFn, e, afterRange, endLoopA, hg, loopOf, hb, Bool.not_false, guardB_true]
  rw [this]
  exact hw

theorem W_range' {g : FuncId} {first cap : List Value} {params : List Tmp} {assign body : Code} {P : ALoop → Value → Heap → Prop}
    (hc : ∀ R, R = loopRec s.tmps params assign body h.next → CW C g (first ++ [.func (.yield (h.next + 1)) ⟨[]⟩ ⟨[]⟩] ++ cap) ((h.alloc (.deferred true)).alloc (.loop R)) (P R))
    (hw : ∀ R, R = loopRec s.tmps params assign body h.next → ∀ v h', P R v h' → ∃ r, h'.get (h.next + 1) = some (.loop r) ∧ isBusy r.state = false ∧
      W (Lim C none (itemsOf r.pending k) (s.mark [{ target := .collected h.next, args := ⟨[]⟩ }]) (h'.set (h.next + 1) (.loop (r.turn .exhausted r.pending)))) Q) :
    W (stRange C (Lim C) none params assign body k s h (.func (.func g) ⟨first⟩ ⟨cap⟩)) Q := W_range (hc _ rfl) (hw _ rfl)

theorem V_yield (l : Nat) (args : List Value) : appV C (.func (.yield l) #[] #[]) args h = yieldTo (Lim C) l args h := by
  simp [appV, applyFn]

/-- a round of a loop over a function -/
theorem yield_of {l : Nat} {args : List Value} {r : ALoop} {P : Bool → Heap → Prop} (hg : h.get l = some (.loop r)) (hn : args.length = r.params.length)
    (hw : W (Lim C (some l) [.code r.assign, .beginRound, .code r.body] ⟨setAll r.params args r.tmps, [], none⟩ h) fun e s h' => ∃ j x, e = .ended j ∧ s.defers = [] ∧ h'.get l = some (.loop x) ∧ P j.isNone (h'.set l (.loop (x.turn (stateBehind j) j)))) :
    ∃ b h', yieldTo (Lim C) l args h = some (.ret (.bool b) h' none) ∧ P b h' := by
  obtain ⟨e, s, h', ew, j, x, rfl, hd, hx, hp⟩ := hw
  refine ⟨_, _, ?_, hp⟩
  have hn' : Nat.beq args.length r.params.length = true := by rw [hn]; exact Nat.beq_refl _
  unfold yieldTo
  simp only [hg, obind_some, loopOf, hn', guardB_true, ew, yieldEnd, jumpOf, hd, noDefers, hx]
end

theorem mark_nil (τ : List (List Value)) (p : Option Value) (d : Deferred) : FrS.mark ⟨τ, [], p⟩ [d] = ⟨τ, [d], p⟩ := rfl
theorem items_none (k : List Item) : itemsOf none k = k := rfl
theorem items_some (c : Code) (k : List Item) : itemsOf (some c) k = .code c :: k := rfl
theorem setAll_one (n : Nat) (f : Nat → Value) (t : Tmp) (v : Value) : setAll [t] [v] (T n f) = T n (upd f t v) := by
  have := P_some n f [] none t v
  exact congrArg FrS.tmps this

theorem Post_fin (C : Ctx) (rs : List ResultVar) (Q : Value → Heap → Prop) (n : Nat) (f : Nat → Value) (h : Heap) : Post C rs Q (.ended none) ⟨T n f, [], none⟩ h ↔ PR Q h (readResults C (T n f) h rs) := by
  simp [Post]
/-- what a frame leaves that has entered a loop over a function, or none -/
def PostO (C : Ctx) (rs : List ResultVar) (Q : Value → Heap → Prop) (r : FEnd) (s : FrS) (h' : Heap) : Prop := (r = .ended none ∨ r = .ended (some .ret)) ∧ s.pan = none ∧
  ((s.defers = [] ∧ PR Q h' (readResults C s.tmps h' rs)) ∨ ∃ b, s.defers = [{ target := .collected b, args := ⟨[]⟩ }] ∧ h'.get b = some (.deferred true) ∧ PR Q (h'.set b (.deferred false)) (readResults C s.tmps (h'.set b (.deferred false)) rs))
theorem PostO_ret (C : Ctx) (rs : List ResultVar) (Q : Value → Heap → Prop) (n : Nat) (f : Nat → Value) (h : Heap) : PostO C rs Q (.ended (some .ret)) ⟨T n f, [], none⟩ h ↔ PR Q h (readResults C (T n f) h rs) := by
  simp [PostO]
theorem PostO_retD (C : Ctx) (rs : List ResultVar) (Q : Value → Heap → Prop) (n : Nat) (f : Nat → Value) (h : Heap) (b : Nat) : PostO C rs Q (.ended (some .ret)) ⟨T n f, [{ target := .collected b, args := ⟨[]⟩ }], none⟩ h ↔ h.get b = some (.deferred true) ∧ PR Q (h.set b (.deferred false)) (readResults C (T n f) (h.set b (.deferred false)) rs) := by
  simp [PostO]

theorem CWo_in {C : Ctx} {f : FuncId} (fn : Func) {c : Code} {args : List Value} {h : Heap} {Q : Value → Heap → Prop} (hA : C.A f = none) (hF : C.F.get f = some fn) (hb : fn.body = some c) (hn : Nat.ble args.length fn.ntmps = true)
    (hw : W (Lim C none [.code c] ⟨T fn.ntmps (argsFn args), [], none⟩ h) (PostO C fn.results.toList Q)) : CW C f args h Q := by
  obtain ⟨r, s, h', e, h1, h2, h3⟩ := hw
  rcases h3 with ⟨h3, h4⟩ | ⟨b, hd, hg, hq⟩
  · exact CW_in fn hA hF hb hn ⟨r, s, h', e, h1, h3, h2, h4⟩
  · have hm : endMode r = some none := by rcases h1 with rfl | rfl <;> rfl
    revert hq
    cases hr : readResults C s.tmps (h'.set b (.deferred false)) fn.results.toList with
    | none => exact fun h => h.elim
    | some vs =>
      intro hq
      refine ⟨packResults vs, _, ?_, hq⟩
      rw [callF_go args h hA hF hb (Nat.le_of_ble_eq_true hn), e]
      simp only [finish, obind_some, hm, hd]
      have : runDefers C (Lim C) [{ target := .collected b, args := ⟨[]⟩ }] none h' = some (none, h'.set b (.deferred false)) := by
        show obind (runDefer1 C (Lim C) _ none h') _ = _
        have e3 : runDefer1 C (Lim C) { target := .collected b, args := ⟨[]⟩ } none h' = some (none, h'.set b (.deferred false)) := by
          unfold runDefer1
          simp only [hg, obind_some, isDeferred, guardB_true]
        rw [e3]; rfl
      simp only [this, obind_some, hr, h2]

/- HEAPS THAT CHANGE AT SOME PLACES ALONE -/
structure Gr (X : Nat → Prop) (h h' : Heap) : Prop where
  ok : HOK h'
  next : h.next ≤ h'.next
  get : ∀ i, i < h.next → ¬ X i → h'.get i = h.get i
theorem Gr.refl {X : Nat → Prop} {h : Heap} (hk : HOK h) : Gr X h h := ⟨hk, Nat.le_refl _, fun _ _ _ => rfl⟩
theorem Gr.trans {X : Nat → Prop} {a b c : Heap} (h : Gr X a b) (h' : Gr X b c) : Gr X a c := ⟨h'.ok, Nat.le_trans h.next h'.next, fun i hi hx => (h'.get i (Nat.lt_of_lt_of_le hi h.next) hx).trans (h.get i hi hx)⟩
theorem Fr.gr {X : Nat → Prop} {h h' : Heap} (f : Fr h h') : Gr X h h' := ⟨f.ok, f.next, fun i hi _ => f.get i hi⟩
theorem Gr.fr {X : Nat → Prop} {h0 h h' : Heap} (g : Gr X h h') (f : Fr h0 h) (hx : ∀ i, X i → h0.next ≤ i) : Fr h0 h' :=
  ⟨g.ok, Nat.le_trans f.next g.next, fun i hi => (g.get i (Nat.lt_of_lt_of_le hi f.next) fun x => by have := hx i x; omega).trans (f.get i hi)⟩
theorem Gr.get' {X : Nat → Prop} {h h' : Heap} (g : Gr X h h') (hk : HOK h) {i : Nat} (hi : ¬ X i) {x : AObj} (hr : h.get i = some x) : h'.get i = some x := by rw [g.get i (get_lt hk hr) hi]; exact hr
theorem Gr.row' {X : Nat → Prop} {h h' : Heap} (g : Gr X h h') (hk : HOK h) {i : Nat} (hi : ¬ X i) {l : List Value} (hr : rowAt h i = some l) : rowAt h' i = some l := by
  unfold rowAt at hr ⊢
  cases e : h.get i with
  | none => rw [e] at hr; simp at hr
  | some x => rw [g.get' hk hi e]; rw [e] at hr; exact hr
theorem SL.gr {X : Nat → Prop} {N : Nat} {h h' : Heap} {v : Value} {l : List Value} {s n : Nat} (q : SL N h v l s n) (hk : HOK h) (g : Gr X h h') (hx : ∀ i, X i → i < N) : SL N h' v l s n :=
  q.keep fun b hb => g.get b (q.blk_lt hk hb).2 fun x => by have := hx b x; have := (q.blk_lt hk hb).1; omega
theorem SL.low {N M : Nat} {h : Heap} {v : Value} {l : List Value} {s n : Nat} (q : SL N h v l s n) (hm : M ≤ N) : SL M h v l s n := by
  rcases q with q | ⟨b, e, h0, h1, h2, h3⟩
  · exact .inl q
  · exact .inr ⟨b, e, h0, by omega, h2, h3⟩

/- ALL LISTS OF HOURS, BOARD BY BOARD -/
def exts (bs : List Board) : Nat → List Int → List (List Int)
  | 0, p => [p]
  | d + 1, p => match bs[p.length]? with
    | some b => (hrs b).flatMap fun n => exts bs d (p ++ [n])
    | none => []
theorem exts_succ {bs : List Board} {d : Nat} {p : List Int} {b : Board} (h : bs[p.length]? = some b) : exts bs (d + 1) p = (hrs b).flatMap fun n => exts bs d (p ++ [n]) := by
  show (match bs[p.length]? with | some b => (hrs b).flatMap fun n => exts bs d (p ++ [n]) | none => []) = _
  rw [h]
theorem exts_allN {bs : List Board} : ∀ (d i : Nat), i + d ≤ bs.length → (allN bs i).flatMap (exts bs d) = allN bs (i + d)
  | 0, i, _ => by
    have : exts bs 0 = fun p => [p] := rfl
    rw [this]; simp
  | d + 1, i, h => by
    obtain ⟨b, hb⟩ : ∃ b, bs[i]? = some b := ⟨_, List.getElem?_eq_getElem (by omega)⟩
    have e : (allN bs i).flatMap (exts bs (d + 1)) = (allN bs i).flatMap fun p => (hrs b).flatMap fun n => exts bs d (p ++ [n]) := by
      rw [List.flatMap_def, List.flatMap_def]
      congr 1
      refine List.map_congr_left fun p hp => ?_
      have := ((allN_mem (by omega) p).1 hp).1
      exact exts_succ (by rw [this]; exact hb)
    rw [e, show i + (d + 1) = (i + 1) + d by omega, ← exts_allN d (i + 1) (by omega), allN_succ hb]
    unfold ext
    rw [List.flatMap_assoc]
    congr 1
    funext p
    rw [List.flatMap_map]
theorem exts_all (bs : List Board) : exts bs bs.length [] = allN bs bs.length := by
  have := exts_allN (bs := bs) bs.length 0 (by omega)
  simpa [allN] using this
theorem allN_ok {bs : List Board} {q : List Int} : hoursOK bs q = true ↔ q ∈ allN bs bs.length := by
  rw [allN_mem (Nat.le_refl _)]
  constructor
  · exact hoursOK_at
  · rintro ⟨h1, h2⟩
    refine hoursOK_all h1 fun i x b hx hb => ?_
    have := h2 i x b hx hb
    simpa [okHour, inP] using this
theorem allN_snoc {bs : List Board} {i : Nat} {b : Board} {p : List Int} {n : Int} (hb : bs[i]? = some b) (hp : p ∈ allN bs i) (hn : n ∈ hrs b) : p ++ [n] ∈ allN bs (i + 1) := by
  rw [allN_succ hb]
  exact mem_ext.2 ⟨p, hp, n, mem_hrs.1 hn, rfl⟩
end Go.Am
