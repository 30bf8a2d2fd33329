/- The abstract machine: a run on given data, done once in a small heap, holds in every memory that has these data: no premises but those of the machine. -/
import Derived.Test.YtlflfbnnjlkkcaaGreatJAm29
set_option linter.unusedSimpArgs false
set_option linter.unusedVariables false
set_option linter.defProp false
namespace Go.Am
open Go
theorem HRel.below {good : Code → Prop} {w0 : World} {μ : Mu} {h : Heap} {w w' : World} (H : HRel good w0 μ h w) (os : w'.os = w.os) (out : w'.output = w.output) (size : w.heap.size ≤ w'.heap.size) (block : ∀ k, k < w.heap.size → w'.heap[k]? = w.heap[k]?) : HRel good w0 μ h w' := by
  have same : ∀ i e o, μ i = some e → h.get i = some o → o.live = true → w'.heap[e.blk]? = w.heap[e.blk]? := fun i e o a b l => by
    obtain ⟨X, hX⟩ := (H.obj i e o a b).some l
    exact block _ (Array.getElem?_eq_some_iff.1 hX).1
  refine { H with os := os.trans H.os, output := out.trans H.output, size := Nat.le_trans H.size size, old := fun b hb => (block b (Nat.lt_of_lt_of_le hb H.size)).trans (H.old b hb), obj := fun i e o a b => ?_ }
  cases o with
  | dead => trivial
  | row c s b' => rw [same i e _ a b rfl]; exact H.obj i e _ a b
  | map es c => rw [same i e _ a b rfl]; exact H.obj i e _ a b
  | iter s p => rw [same i e _ a b rfl]; exact H.obj i e _ a b
  | loop r => rw [same i e _ a b rfl]; exact H.obj i e _ a b
  | deferred b' => rw [same i e _ a b rfl]; exact H.obj i e _ a b
def SpecOK (C : Ctx) (gd : List Oper → Bool) (w0 : World) (f : FuncId) (sp : Spec) : Prop :=
  ∀ μ h w args ARGS res, HRel (goodP C gd) w0 μ h w → GRel C μ → VRels μ args ARGS.toList → sp args h = some res → Calls C.P f ARGS w (CallPost C gd w0 μ h.next res)
inductive DT where
  | nil
  | pl (v : Value) (rest : DT)
  | sl (n s : Nat) (sub rest : DT)
  | pt (n : Nat) (sub rest : DT)
  | mp (es : List (Value × Value × Nat)) (c : Nat) (rest : DT)
noncomputable def samePl : Value → Value → Bool
  | .bool a, .bool b => a == b
  | .int k a, .int k' b => decide (k = k') && decide (a = b)
  | .string a, .string b => strEq a b
  | .slice none n c, .slice none m d => Nat.beq n m && Nat.beq c d
  | .pointer none, .pointer none => true
  | .map none, .map none => true
  | .nilFunc, .nilFunc => true
  | .nilIface, .nilIface => true
  | _, _ => false
theorem samePl_eq {v w : Value} (h : samePl v w = true) : v = w := by
  unfold samePl at h
  split at h
  · simp at h; rw [h]
  · simp at h; rw [h.1, h.2]
  · rw [strEq_imp h]
  · simp at h; rw [h.1, h.2]
  · rfl
  · rfl
  · rfl
  · rfl
  · cases h
noncomputable def slIs (h : Heap) (own : Bool) (n s : Nat) (k : List Value → Bool) : Value → Bool
  | .slice (some a) m _ => Nat.beq m n && (match n with
    | 0 => true
    | n + 1 => match h.get a.block with
      | some (.row cells _ o) => (Nat.ble 1 s && (o || !own)) && (match take? cells a.off ((n + 1) * s) with | some l => k l | none => false)
      | _ => false)
  | _ => false
noncomputable def ptIs (h : Heap) (own : Bool) (n : Nat) (k : List Value → Bool) : Value → Bool
  | .pointer (some a) => match h.get a.block with
    | some (.row cells _ o) => (Nat.ble 1 n && (o || !own)) && (match take? cells a.off n with | some l => k l | none => false)
    | _ => false
  | _ => false
noncomputable def sameE (e : MapEntry) (x : Value × Value × Nat) : Bool := samePl e.key x.1 && (samePl e.val x.2.1 && Nat.beq e.born x.2.2)
noncomputable def sameEs (es : List MapEntry) : List (Value × Value × Nat) → Bool :=
  lrec (fun l => match l with | [] => true | _ :: _ => false) (fun e _ ih l => match l with | [] => false | x :: xs => sameE e x && ih xs) es
noncomputable def entryOf (x : Value × Value × Nat) : MapEntry := { key := x.1, val := x.2.1, born := x.2.2 }
noncomputable def mpIs (h : Heap) (own : Bool) (es : List (Value × Value × Nat)) (c : Nat) : Value → Bool
  | .map (some r) => own && (match h.get r with | some (.map es' c') => sameEs es' es && Nat.beq c' c | _ => false)
  | _ => false
noncomputable def matchT (h : Heap) (own : Bool) (T : DT) : List Value → Bool :=
  DT.rec (motive := fun _ => List Value → Bool)
    (fun l => match l with | [] => true | _ :: _ => false)
    (fun v _ ih l => match l with | x :: xs => samePl v x && ih xs | [] => false)
    (fun n s _ _ ih1 ih2 l => match l with | x :: xs => slIs h own n s ih1 x && ih2 xs | [] => false)
    (fun n _ _ ih1 ih2 l => match l with | x :: xs => ptIs h own n ih1 x && ih2 xs | [] => false)
    (fun es c _ ih l => match l with | x :: xs => mpIs h own es c x && ih xs | [] => false) T
noncomputable def natIf {β : Type} (n : Nat) (a b : β) : β := Nat.rec (motive := fun _ => β) a (fun _ _ => b) n
noncomputable def cntT (T : DT) : Nat := DT.rec (motive := fun _ => Nat) 0 (fun _ _ ih => ih) (fun n _ _ _ ih1 ih2 => natIf n 0 ih1 + (ih2 + 1)) (fun _ _ _ ih1 ih2 => ih1 + (ih2 + 1)) (fun _ _ _ ih => ih + 1) T
noncomputable def cellsT (T : DT) : Nat → List Value :=
  DT.rec (motive := fun _ => Nat → List Value) (fun _ => []) (fun v _ ih k => v :: ih k)
    (fun n _ sub _ _ ih2 k => .slice (some ⟨k, 0, none⟩) n n :: ih2 (k + 1 + natIf n 0 (cntT sub)))
    (fun _ sub _ _ ih2 k => .pointer (some ⟨k, 0, none⟩) :: ih2 (k + 1 + cntT sub)) (fun _ _ _ ih k => .map (some k) :: ih (k + 1)) T
noncomputable def objsT (own : Bool) (T : DT) : Nat → List AObj :=
  DT.rec (motive := fun _ => Nat → List AObj) (fun _ => []) (fun _ _ ih k => ih k)
    (fun n s sub _ ih1 ih2 k => natIf n [AObj.dead] (AObj.row (cellsT sub (k + 1)) s own :: ih1 (k + 1)) ++ ih2 (k + 1 + natIf n 0 (cntT sub)))
    (fun _ sub _ ih1 ih2 k => (AObj.row (cellsT sub (k + 1)) 0 own :: ih1 (k + 1)) ++ ih2 (k + 1 + cntT sub)) (fun es c _ ih k => AObj.map (es.map entryOf) c :: ih (k + 1)) T
noncomputable def srcOf : Value → Nat
  | .slice (some a) _ _ => a.block
  | .pointer (some a) => a.block
  | .map (some r) => r
  | _ => 0
noncomputable def takeD (h : Heap) (n : Nat) : Value → List Value
  | .slice (some a) _ _ => match obind (rowAt h a.block) fun cells => take? cells a.off n with | some l => l | none => []
  | .pointer (some a) => match obind (rowAt h a.block) fun cells => take? cells a.off n with | some l => l | none => []
  | _ => []
noncomputable def srcT (h : Heap) (T : DT) : List Value → List Nat :=
  DT.rec (motive := fun _ => List Value → List Nat) (fun _ => []) (fun _ _ ih l => ih l.tail)
    (fun n s _ _ ih1 ih2 l => natIf n [0] (srcOf (l.headD undef) :: ih1 (takeD h (n * s) (l.headD undef))) ++ ih2 l.tail)
    (fun n _ _ ih1 ih2 l => (srcOf (l.headD undef) :: ih1 (takeD h n (l.headD undef))) ++ ih2 l.tail)
    (fun _ _ _ ih l => srcOf (l.headD undef) :: ih l.tail) T
theorem srcT_len (h : Heap) (T : DT) : ∀ l, (srcT h T l).length = cntT T := by
  induction T with
  | nil => intro l; rfl
  | pl v r ih => intro l; exact ih _
  | sl n s sub r ih1 ih2 =>
    intro l
    cases n with
    | zero =>
      show ([0] ++ srcT h r l.tail).length = 0 + (cntT r + 1)
      rw [List.length_append, ih2]; simp [Nat.add_comm]
    | succ n =>
      show ((srcOf (l.headD undef) :: srcT h sub (takeD h ((n + 1) * s) (l.headD undef))) ++ srcT h r l.tail).length = cntT sub + (cntT r + 1)
      rw [List.length_append, ih2, List.length_cons, ih1]; omega
  | pt n sub r ih1 ih2 =>
    intro l
    show ((srcOf (l.headD undef) :: srcT h sub (takeD h n (l.headD undef))) ++ srcT h r l.tail).length = cntT sub + (cntT r + 1)
    rw [List.length_append, ih2, List.length_cons, ih1]; omega
  | mp es c r ih =>
    intro l
    show (srcT h r l.tail).length + 1 = cntT r + 1
    rw [ih]
theorem objsT_len (own : Bool) (T : DT) : ∀ k, (objsT own T k).length = cntT T := by
  induction T with
  | nil => intro k; rfl
  | pl v r ih => intro k; exact ih k
  | sl n s sub r ih1 ih2 =>
    intro k
    cases n with
    | zero =>
      show ([AObj.dead] ++ objsT own r (k + 1 + 0)).length = 0 + (cntT r + 1)
      rw [List.length_append, ih2]; simp [Nat.add_comm]
    | succ n =>
      show ((AObj.row (cellsT sub (k + 1)) s own :: objsT own sub (k + 1)) ++ objsT own r (k + 1 + cntT sub)).length = cntT sub + (cntT r + 1)
      rw [List.length_append, ih2, List.length_cons, ih1]; omega
  | pt n sub r ih1 ih2 =>
    intro k
    show ((AObj.row (cellsT sub (k + 1)) 0 own :: objsT own sub (k + 1)) ++ objsT own r (k + 1 + cntT sub)).length = cntT sub + (cntT r + 1)
    rw [List.length_append, ih2, List.length_cons, ih1]; omega
  | mp es c r ih =>
    intro k
    show (objsT own r (k + 1)).length + 1 = cntT r + 1
    rw [ih]
def Behind (N : Nat) (own : Bool) (ν : Mu) (hi : Heap) (μ : Mu) (w : World) (i : Nat) (o : AObj) (src : Option Nat) : Prop :=
  (own = false → o.own = false) ∧ ∃ e, μ i = some e ∧ (∀ M (good : Code → Prop), M ≤ N → ORel good M μ e o w.heap[e.blk]?) ∧
    (own = true → o.live = true → N ≤ e.blk ∧ ∃ i0 e0 o0, src = some i0 ∧ ν i0 = some e0 ∧ hi.get i0 = some o0 ∧ o0.own = true ∧ o0.live = true ∧ e.blk = e0.blk)
theorem Behind.mono {N : Nat} {own : Bool} {ν μ μ' : Mu} {hi : Heap} (hle : μ.le μ') {w : World} {i : Nat} {o : AObj} {src : Option Nat} (h : Behind N own ν hi μ w i o src) : Behind N own ν hi μ' w i o src := by
  obtain ⟨h4, e, h1, h2, h3⟩ := h
  exact ⟨h4, e, hle _ _ h1, fun M good hM => (h2 M good hM).mono hle, h3⟩
theorem VRel.of_same {μ ν : Mu} {v w V : Value} (h : samePl v w = true) (hV : VRel μ v V) : VRel ν v V := by
  unfold samePl at h
  split at h
  · rw [hV.bool_inv]; exact .plain _ rfl
  · rw [hV.int_inv]; exact .plain _ rfl
  · rw [hV.string_inv]; exact .plain _ rfl
  · rw [hV.nilslice_inv]; exact .plain _ rfl
  · rw [hV.nilptr_inv]; exact .plain _ rfl
  · rw [hV.nilmap_inv]; exact .plain _ rfl
  · rw [hV.nilFunc_inv]; exact .plain _ rfl
  · rw [hV.nilIface_inv]; exact .plain _ rfl
  · cases h
theorem sameEs_val : ∀ {es : List MapEntry} {l : List (Value × Value × Nat)}, sameEs es l = true → ∀ e ∈ es, ∃ y, samePl e.val y = true
  | [], _, _, e, he => by simp at he
  | _ :: _, [], h, _, _ => by simp [sameEs, lrec] at h
  | x :: es, y :: l, h, e, he => by
    obtain ⟨h1, h2⟩ := (Bool.and_eq_true _ _).mp (show (sameE x y && sameEs es l) = true from h)
    rcases List.mem_cons.1 he with rfl | he
    · exact ⟨_, ((Bool.and_eq_true _ _).mp ((Bool.and_eq_true _ _).mp h1).2).1⟩
    · exact sameEs_val h2 e he
theorem sameEs_eq : ∀ {es : List MapEntry} {l : List (Value × Value × Nat)}, sameEs es l = true → es = l.map entryOf
  | [], [], _ => rfl
  | [], _ :: _, h => by simp [sameEs, lrec] at h
  | _ :: _, [], h => by simp [sameEs, lrec] at h
  | e :: es, x :: l, h => by
    obtain ⟨h1, h2⟩ := (Bool.and_eq_true _ _).mp (show (sameE e x && sameEs es l) = true from h)
    obtain ⟨h3, h4⟩ := (Bool.and_eq_true _ _).mp h1
    obtain ⟨h5, h6⟩ := (Bool.and_eq_true _ _).mp h4
    rw [sameEs_eq h2, List.map_cons]
    congr 1
    obtain ⟨k, v, b⟩ := e
    unfold entryOf
    rw [← samePl_eq h3, ← samePl_eq h5, ← natBeq h6]
theorem import_T {good : Code → Prop} {w0 : World} {μ : Mu} {h : Heap} {w : World} (H : HRel good w0 μ h w) (own : Bool) (T : DT) : ∀ (k : Nat) (ν : Mu) (cells CELLS : List Value), matchT h own T cells = true → VRels μ cells CELLS → (∀ i, k ≤ i → ν i = none) → 0 < k →
    ∃ ν', ν.le ν' ∧ (∀ i e, ν' i = some e → ν i = some e ∨ (k ≤ i ∧ i < k + cntT T)) ∧ VRels ν' (cellsT T k) CELLS ∧ ∀ (j : Nat) o, (objsT own T k)[j]? = some o → Behind w0.heap.size own μ h ν' w (k + j) o ((srcT h T cells)[j]?) := by
  induction T with
  | nil =>
    intro k ν cells CELLS hm hv hk h0
    cases cells with
    | cons x xs => exact absurd hm (by simp [matchT])
    | nil => exact ⟨ν, .refl _, fun i e a => .inl a, by rw [hv.nil_inv]; exact .nil, fun j o a => by simp [objsT] at a⟩
  | pl v r ih =>
    intro k ν cells CELLS hm hv hk h0
    cases cells with
    | nil => exact absurd hm (by simp [matchT])
    | cons x xs =>
      obtain ⟨h1, h2⟩ := (Bool.and_eq_true _ _).mp (show (samePl v x && matchT h own r xs) = true from hm)
      obtain ⟨V, L, rfl, hV, hL⟩ := hv.cons_inv
      obtain ⟨ν', a1, a2, a3, a4⟩ := ih k ν xs L h2 hL hk h0
      have hx := samePl_eq h1
      subst hx
      exact ⟨ν', a1, a2, .cons (VRel.of_same h1 hV) a3, a4⟩
  | sl n s sub r ih1 ih2 =>
    intro k ν cells CELLS hm hv hk h0
    cases cells with
    | nil => exact absurd hm (by simp [matchT])
    | cons x xs =>
      obtain ⟨h1, h2⟩ := (Bool.and_eq_true _ _).mp (show (slIs h own n s (matchT h own sub) x && matchT h own r xs) = true from hm)
      obtain ⟨V, L, rfl, hV, hL⟩ := hv.cons_inv
      unfold slIs at h1
      split at h1
      case h_2 => simp at h1
      rename_i a m c
      obtain ⟨h3, h4⟩ := (Bool.and_eq_true _ _).mp h1
      have hmn := natBeq h3
      subst hmn
      obtain ⟨A, C, rfl, hc, hC, hs⟩ := hV.slice_inv
      cases m with
      | zero =>
        have hnew : ∃ e : Spot, C = 0 ∨ (A.spot = none ∧ A.block = e.blk ∧ A.off = e.base) := by
          rcases hs with hs | ⟨_, e, _, hs⟩
          · exact ⟨⟨0, 0, 0, 0⟩, .inl hs.2⟩
          · rcases hs with hs | hs
            · exact ⟨⟨e.blk, e.base + a.off, 0, 0⟩, .inr ⟨hs.1, hs.2.1, hs.2.2.1⟩⟩
            · exact ⟨⟨0, 0, 0, 0⟩, .inl hs⟩
        obtain ⟨e, he⟩ := hnew
        obtain ⟨ν', a1, a2, a3, a4⟩ := ih2 (k + 1) (ν.upd k e) xs L h2 hL (fun i hi => by rw [Mu.upd_ne _ _ (by omega)]; exact hk i (by omega)) (Nat.succ_pos k)
        have hk' : ν' k = some e := a1 _ _ (Mu.upd_self _ _ _)
        refine ⟨ν', (Mu.le_upd e (hk k (Nat.le_refl _))).trans a1, ?_, .cons ?_ a3, ?_⟩
        · intro i f hi
          rcases a2 i f hi with b | b
          · by_cases hik : i = k
            · right; subst hik; exact ⟨Nat.le_refl _, by show i < i + (0 + (cntT r + 1)); omega⟩
            · rw [Mu.upd_ne _ _ hik] at b; exact .inl b
          · right; exact ⟨by omega, by show i < k + (0 + (cntT r + 1)); omega⟩
        · refine .slice _ _ _ _ _ (Nat.zero_le _) hC (.inr ⟨by show k ≠ 0; omega, e, hk', ?_⟩)
          rcases he with he | ⟨e1, e2, e3⟩
          · exact .inr he
          · exact .inl ⟨e1, e2, by rw [e3]; rfl, fun s hs => by simp at hs⟩
        · intro j o hj
          have hj : ([AObj.dead] ++ objsT own r (k + 1))[j]? = some o := hj
          cases j with
          | zero => simp at hj; subst hj; exact ⟨fun _ => rfl, e, hk', fun _ _ _ => trivial, fun _ hl => by simp [AObj.live] at hl⟩
          | succ j =>
            have := a4 j o (by simpa using hj)
            rw [show k + (j + 1) = k + 1 + j from by omega]
            exact this
      | succ m =>
        dsimp only at h4
        split at h4
        case h_2 => simp at h4
        rename_i cs z o hget
        obtain ⟨ho, h5⟩ := (Bool.and_eq_true _ _).mp h4
        obtain ⟨hs1, ho⟩ := (Bool.and_eq_true _ _).mp ho
        have hs1 := Nat.le_of_ble_eq_true hs1
        split at h5
        case h_2 => simp at h5
        rename_i l hl
        obtain ⟨hl1, hl2⟩ := take?_eq hl
        rcases hs with ⟨_, hz⟩ | ⟨hb0, e, he, hz⟩
        · omega
        rcases hz with ⟨s1, s2, s3, _⟩ | hz
        case inr => omega
        have hO := H.obj _ _ _ he hget
        obtain ⟨Cr, el, fz, r1, r2, r3, r4, r5, r6⟩ := hO
        have hll : a.off + l.length ≤ cs.length := by
          have := congrArg List.length hl1
          rw [List.length_take, List.length_drop] at this
          rw [hl2] at this ⊢
          have : 0 < (m + 1) * s := Nat.mul_pos (by omega) (by omega)
          omega
        let e' : Spot := ⟨e.blk, e.base + a.off, l.length, s⟩
        have hrel : VRels μ l ((Cr.toList.drop (e.base + a.off)).take l.length) := by
          have := (r5.drop a.off).take ((m + 1) * s)
          rw [← hl1] at this
          rw [← List.drop_drop]
          rw [List.drop_take, List.take_take] at this
          rw [Nat.min_eq_left (by omega), ← hl2] at this
          exact this
        obtain ⟨ν1, b1, b2, b3, b4⟩ := ih1 (k + 1) (ν.upd k e') l _ h5 hrel (fun i hi => by rw [Mu.upd_ne _ _ (by omega)]; exact hk i (by omega)) (Nat.succ_pos k)
        obtain ⟨ν', a1, a2, a3, a4⟩ := ih2 (k + 1 + cntT sub) ν1 xs L h2 hL (fun i hi => by
          cases hν : ν1 i with
          | none => rfl
          | some f =>
            rcases b2 i f hν with b | b
            · rw [Mu.upd_ne _ _ (by omega), hk i (by omega)] at b; simp at b
            · omega) (by omega)
        have hk' : ν' k = some e' := a1 _ _ (b1 _ _ (Mu.upd_self _ _ _))
        have hlen : (cellsT sub (k + 1)).length = l.length := by
          rw [b3.1, ← hrel.1]
        refine ⟨ν', (Mu.le_upd e' (hk k (Nat.le_refl _))).trans (b1.trans a1), ?_, .cons ?_ a3, ?_⟩
        · intro i f hi
          rcases a2 i f hi with b | b
          · rcases b2 i f b with b | b
            · by_cases hik : i = k
              · right; subst hik; exact ⟨Nat.le_refl _, by show i < i + (cntT sub + (cntT r + 1)); omega⟩
              · rw [Mu.upd_ne _ _ hik] at b; exact .inl b
            · right; exact ⟨by omega, by show i < k + (cntT sub + (cntT r + 1)); omega⟩
          · right; exact ⟨by omega, by show i < k + (cntT sub + (cntT r + 1)); omega⟩
        · exact .slice _ _ _ _ _ hC hC (.inr ⟨by show k ≠ 0; omega, e', hk', .inl ⟨s1, s2, by rw [s3]; rfl, fun s hs => by simp at hs⟩⟩)
        · intro j o' hj
          have hj : ((AObj.row (cellsT sub (k + 1)) s own :: objsT own sub (k + 1)) ++ objsT own r (k + 1 + cntT sub))[j]? = some o' := hj
          cases j with
          | zero =>
            simp at hj; subst hj
            refine ⟨fun hf => hf, e', hk', fun M good' hM => ⟨Cr, el, fz, r1, ?_, ?_, rfl, ?_, fun hown => ?_⟩, fun hown _ => ?_⟩
            · show e.base + a.off + l.length ≤ _; omega
            · rw [hlen]; exact Nat.le_refl _
            · rw [hlen]; exact b3.mono a1
            · have : o = true := by simpa [hown] using ho
              exact ⟨Nat.le_trans hM (r6 this).1, (r6 this).2⟩
            · have : o = true := by simpa [hown] using ho
              exact ⟨(r6 this).1, a.block, e, _, rfl, he, hget, this, rfl, rfl⟩
          | succ j =>
            rw [List.cons_append, List.getElem?_cons_succ, List.getElem?_append, objsT_len] at hj
            have htk : takeD h ((m + 1) * s) (.slice (some a) (m + 1) c) = l := by
              show (match obind (rowAt h a.block) fun cells => take? cells a.off ((m + 1) * s) with | some l => l | none => []) = l
              unfold rowAt; rw [hget]; show (match take? cs a.off ((m + 1) * s) with | some l => l | none => []) = l
              rw [hl]
            have hsrc : (srcT h (.sl (m + 1) s sub r) (Value.slice (some a) (m + 1) c :: xs))[j + 1]? = (srcT h sub l ++ srcT h r xs)[j]? := by
              show ((srcOf (.slice (some a) (m + 1) c) :: srcT h sub (takeD h ((m + 1) * s) (.slice (some a) (m + 1) c))) ++ srcT h r xs)[j + 1]? = _
              rw [htk]; rfl
            rw [hsrc, List.getElem?_append, srcT_len]
            split at hj
            · rename_i hj2
              have := (b4 j o' hj).mono a1
              rw [show k + (j + 1) = k + 1 + j from by omega, if_pos hj2]; exact this
            · rename_i hj2
              have := a4 _ o' hj
              rw [show k + (j + 1) = k + 1 + cntT sub + (j - cntT sub) from by omega, if_neg hj2]; exact this
  | pt n sub r ih1 ih2 =>
    intro k ν cells CELLS hm hv hk h0
    cases cells with
    | nil => exact absurd hm (by simp [matchT])
    | cons x xs =>
      obtain ⟨h1, h2⟩ := (Bool.and_eq_true _ _).mp (show (ptIs h own n (matchT h own sub) x && matchT h own r xs) = true from hm)
      obtain ⟨V, L, rfl, hV, hL⟩ := hv.cons_inv
      unfold ptIs at h1
      split at h1
      case h_2 => simp at h1
      rename_i a
      obtain ⟨A, rfl, hs⟩ := hV.ptr_inv
      split at h1
      case h_2 => simp at h1
      rename_i cs z o hget
      obtain ⟨ho, h5⟩ := (Bool.and_eq_true _ _).mp h1
      obtain ⟨hs1, ho⟩ := (Bool.and_eq_true _ _).mp ho
      have hs1 := Nat.le_of_ble_eq_true hs1
      split at h5
      case h_2 => simp at h5
      rename_i l hl
      obtain ⟨hl1, hl2⟩ := take?_eq hl
      obtain ⟨s1, e, he, s2, s3⟩ := hs
      have hO := H.obj _ _ _ he hget
      obtain ⟨Cr, el, fz, r1, r2, r3, r4, r5, r6⟩ := hO
      have hll : a.off + l.length ≤ cs.length := by
        have := congrArg List.length hl1
        rw [List.length_take, List.length_drop] at this
        omega
      let e' : Spot := ⟨e.blk, e.base + a.off, l.length, 0⟩
      have hrel : VRels μ l ((Cr.toList.drop (e.base + a.off)).take l.length) := by
        have := (r5.drop a.off).take n
        rw [← hl1] at this
        rw [← List.drop_drop]
        rw [List.drop_take, List.take_take] at this
        rw [Nat.min_eq_left (by omega), ← hl2] at this
        exact this
      obtain ⟨ν1, b1, b2, b3, b4⟩ := ih1 (k + 1) (ν.upd k e') l _ h5 hrel (fun i hi => by rw [Mu.upd_ne _ _ (by omega)]; exact hk i (by omega)) (Nat.succ_pos k)
      obtain ⟨ν', a1, a2, a3, a4⟩ := ih2 (k + 1 + cntT sub) ν1 xs L h2 hL (fun i hi => by
        cases hν : ν1 i with
        | none => rfl
        | some f =>
          rcases b2 i f hν with b | b
          · rw [Mu.upd_ne _ _ (by omega), hk i (by omega)] at b; simp at b
          · omega) (by omega)
      have hk' : ν' k = some e' := a1 _ _ (b1 _ _ (Mu.upd_self _ _ _))
      have hlen : (cellsT sub (k + 1)).length = l.length := by
        rw [b3.1, ← hrel.1]
      refine ⟨ν', (Mu.le_upd e' (hk k (Nat.le_refl _))).trans (b1.trans a1), ?_, .cons ?_ a3, ?_⟩
      · intro i f hi
        rcases a2 i f hi with b | b
        · rcases b2 i f b with b | b
          · by_cases hik : i = k
            · right; subst hik; exact ⟨Nat.le_refl _, by show i < i + (cntT sub + (cntT r + 1)); omega⟩
            · rw [Mu.upd_ne _ _ hik] at b; exact .inl b
          · right; exact ⟨by omega, by show i < k + (cntT sub + (cntT r + 1)); omega⟩
        · right; exact ⟨by omega, by show i < k + (cntT sub + (cntT r + 1)); omega⟩
      · exact .ptr _ _ ⟨s1, e', hk', s2, by rw [s3]; rfl⟩
      · intro j o' hj
        have hj : ((AObj.row (cellsT sub (k + 1)) 0 own :: objsT own sub (k + 1)) ++ objsT own r (k + 1 + cntT sub))[j]? = some o' := hj
        cases j with
        | zero =>
          simp at hj; subst hj
          refine ⟨fun hf => hf, e', hk', fun M good' hM => ⟨Cr, el, fz, r1, ?_, ?_, rfl, ?_, fun hown => ?_⟩, fun hown _ => ?_⟩
          · show e.base + a.off + l.length ≤ _; omega
          · rw [hlen]; exact Nat.le_refl _
          · rw [hlen]; exact b3.mono a1
          · have : o = true := by simpa [hown] using ho
            exact ⟨Nat.le_trans hM (r6 this).1, (r6 this).2⟩
          · have : o = true := by simpa [hown] using ho
            exact ⟨(r6 this).1, a.block, e, _, rfl, he, hget, this, rfl, rfl⟩
        | succ j =>
          rw [List.cons_append, List.getElem?_cons_succ, List.getElem?_append, objsT_len] at hj
          have htk : takeD h n (.pointer (some a)) = l := by
            show (match obind (rowAt h a.block) fun cells => take? cells a.off n with | some l => l | none => []) = l
            unfold rowAt; rw [hget]; show (match take? cs a.off n with | some l => l | none => []) = l
            rw [hl]
          have hsrc : (srcT h (.pt n sub r) (Value.pointer (some a) :: xs))[j + 1]? = (srcT h sub l ++ srcT h r xs)[j]? := by
            show ((srcOf (.pointer (some a)) :: srcT h sub (takeD h n (.pointer (some a)))) ++ srcT h r xs)[j + 1]? = _
            rw [htk]; rfl
          rw [hsrc, List.getElem?_append, srcT_len]
          split at hj
          · rename_i hj2
            have := (b4 j o' hj).mono a1
            rw [show k + (j + 1) = k + 1 + j from by omega, if_pos hj2]; exact this
          · rename_i hj2
            have := a4 _ o' hj
            rw [show k + (j + 1) = k + 1 + cntT sub + (j - cntT sub) from by omega, if_neg hj2]; exact this
  | mp es c r ih =>
    intro k ν cells CELLS hm hv hk h0
    cases cells with
    | nil => exact absurd hm (by simp [matchT])
    | cons x xs =>
      obtain ⟨h1, h2⟩ := (Bool.and_eq_true _ _).mp (show (mpIs h own es c x && matchT h own r xs) = true from hm)
      obtain ⟨V, L, rfl, hV, hL⟩ := hv.cons_inv
      unfold mpIs at h1
      split at h1
      case h_2 => simp at h1
      rename_i q
      obtain ⟨ho, h5⟩ := (Bool.and_eq_true _ _).mp h1
      split at h5
      case h_2 => simp at h5
      rename_i es' c' hget
      obtain ⟨h6, h7⟩ := (Bool.and_eq_true _ _).mp h5
      have h7 := natBeq h7
      subst h7
      have hsame := h6
      have h6 := sameEs_eq h6
      obtain ⟨e, rfl, he⟩ := hV.map_inv
      have hO := H.obj _ _ _ he hget
      obtain ⟨r1, ES, r2, r3⟩ := hO
      obtain ⟨ν', a1, a2, a3, a4⟩ := ih (k + 1) (ν.upd k e) xs L h2 hL (fun i hi => by rw [Mu.upd_ne _ _ (by omega)]; exact hk i (by omega)) (Nat.succ_pos k)
      have hk' : ν' k = some e := a1 _ _ (Mu.upd_self _ _ _)
      refine ⟨ν', (Mu.le_upd e (hk k (Nat.le_refl _))).trans a1, ?_, .cons (.map _ _ hk') a3, ?_⟩
      · intro i f hi
        rcases a2 i f hi with b | b
        · by_cases hik : i = k
          · right; subst hik; exact ⟨Nat.le_refl _, by show i < i + (cntT r + 1); omega⟩
          · rw [Mu.upd_ne _ _ hik] at b; exact .inl b
        · right; exact ⟨by omega, by show i < k + (cntT r + 1); omega⟩
      · intro j o' hj
        have hj : (AObj.map (es.map entryOf) c' :: objsT own r (k + 1))[j]? = some o' := hj
        cases j with
        | zero =>
          simp at hj; subst hj
          rw [← h6]
          exact ⟨fun h => by rw [ho] at h; simp at h, e, hk', fun M good' hM => ⟨Nat.le_trans hM r1, ES, r2, r3.1, fun i x X hx hX => by
            obtain ⟨q1, q2, q3⟩ := r3.2 i x X hx hX
            obtain ⟨y, hy⟩ := sameEs_val hsame x (List.mem_of_getElem? hx)
            exact ⟨q1, q2, VRel.of_same hy q3⟩⟩, fun _ _ => ⟨r1, q, e, _, rfl, he, hget, rfl, rfl, rfl⟩⟩
        | succ j =>
          have := a4 j o' (by simpa using hj)
          rw [show k + (j + 1) = k + 1 + j from by omega]; exact this
noncomputable def argIs (h : Heap) (own : Bool) (a : Bool × DT) : Value → Bool
  | .agg cs => a.1 && matchT h own a.2 cs.toList
  | v => !a.1 && matchT h own a.2 [v]
noncomputable def matchA (h : Heap) (own : Bool) (A : List (Bool × DT)) : List Value → Bool :=
  lrec (fun l => match l with | [] => true | _ :: _ => false) (fun a _ ih l => match l with | [] => false | x :: xs => argIs h own a x && ih xs) A
noncomputable def cntA (A : List (Bool × DT)) : Nat := lrec 0 (fun a _ ih => cntT a.2 + ih) A
noncomputable def argOf (a : Bool × DT) (k : Nat) : Value := match a.1 with | true => mkAgg (cellsT a.2 k) | false => (cellsT a.2 k).headD undef
noncomputable def argsA (A : List (Bool × DT)) : Nat → List Value := lrec (fun _ => []) (fun a _ ih k => argOf a k :: ih (k + cntT a.2)) A
noncomputable def objsA (own : Bool) (A : List (Bool × DT)) : Nat → List AObj := lrec (fun _ => []) (fun a _ ih k => objsT own a.2 k ++ ih (k + cntT a.2)) A
noncomputable def cellsIn (v : Value) : List Value := match v with | .agg cs => cs.toList | v => [v]
noncomputable def srcA (h : Heap) (A : List (Bool × DT)) : List Value → List Nat := lrec (fun _ => []) (fun a _ ih l => srcT h a.2 (cellsIn (l.headD undef)) ++ ih l.tail) A
noncomputable def distinct (l : List Nat) : Bool := lrec true (fun x xs ih => (Nat.beq x 0 || !(xs.any (Nat.beq x))) && ih) l
noncomputable def partsIn (R : List (Bool × DT)) (v : Value) : List Value := match R with | [_] => [v] | _ => match v with | .tuple vs => vs.toList | _ => []
theorem distinct_at : ∀ {l : List Nat} {i j x : Nat}, distinct l = true → l[i]? = some x → l[j]? = some x → x ≠ 0 → i = j
  | [], _, _, _, _, h, _, _ => by simp at h
  | y :: l, 0, 0, _, _, _, _, _ => rfl
  | y :: l, 0, j + 1, x, hd, h, h', h0 => by
    simp at h; subst h
    obtain ⟨h1, _⟩ := (Bool.and_eq_true _ _).mp (show ((Nat.beq y 0 || !(l.any (Nat.beq y))) && distinct l) = true from hd)
    rcases (Bool.or_eq_true _ _).mp h1 with q | q
    · exact absurd (natBeq q) h0
    · have : l.any (Nat.beq y) = true := List.any_eq_true.2 ⟨y, List.mem_of_getElem? (by simpa using h'), Nat.beq_refl y⟩
      rw [this] at q; simp at q
  | y :: l, i + 1, 0, x, hd, h, h', h0 => by
    simp at h'; subst h'
    obtain ⟨h1, _⟩ := (Bool.and_eq_true _ _).mp (show ((Nat.beq y 0 || !(l.any (Nat.beq y))) && distinct l) = true from hd)
    rcases (Bool.or_eq_true _ _).mp h1 with q | q
    · exact absurd (natBeq q) h0
    · have : l.any (Nat.beq y) = true := List.any_eq_true.2 ⟨y, List.mem_of_getElem? (by simpa using h), Nat.beq_refl y⟩
      rw [this] at q; simp at q
  | y :: l, i + 1, j + 1, x, hd, h, h', h0 => by
    obtain ⟨_, h2⟩ := (Bool.and_eq_true _ _).mp (show ((Nat.beq y 0 || !(l.any (Nat.beq y))) && distinct l) = true from hd)
    rw [distinct_at (l := l) (i := i) (j := j) h2 (by simpa using h) (by simpa using h') h0]
noncomputable def resIs (h : Heap) (R : List (Bool × DT)) (v : Value) : Bool :=
  match R with
  | [a] => argIs h true a v
  | R => match v with | .tuple vs => matchA h true R vs.toList | _ => false
noncomputable def resOf (R : List (Bool × DT)) (k : Nat) : Value := packResults (argsA R k)
theorem objsA_len (own : Bool) (A : List (Bool × DT)) : ∀ k, (objsA own A k).length = cntA A := by
  induction A with
  | nil => intro k; rfl
  | cons a A ih =>
    intro k
    show (objsT own a.2 k ++ objsA own A (k + cntT a.2)).length = cntT a.2 + cntA A
    rw [List.length_append, objsT_len, ih]
theorem import_arg {good : Code → Prop} {w0 : World} {μ : Mu} {h : Heap} {w : World} (H : HRel good w0 μ h w) (own : Bool) (a : Bool × DT) (k : Nat) (ν : Mu) (v V : Value) (hm : argIs h own a v = true) (hv : VRel μ v V) (hk : ∀ i, k ≤ i → ν i = none) (h0 : 0 < k) :
    ∃ ν', ν.le ν' ∧ (∀ i e, ν' i = some e → ν i = some e ∨ (k ≤ i ∧ i < k + cntT a.2)) ∧ VRel ν' (argOf a k) V ∧ ∀ (j : Nat) o, (objsT own a.2 k)[j]? = some o → Behind w0.heap.size own μ h ν' w (k + j) o ((srcT h a.2 (cellsIn v))[j]?) := by
  have one : ∀ v, a.1 = false → matchT h own a.2 [v] = true → VRel μ v V → cellsIn v = [v] → ∃ ν', ν.le ν' ∧ (∀ i e, ν' i = some e → ν i = some e ∨ (k ≤ i ∧ i < k + cntT a.2)) ∧ VRel ν' (argOf a k) V ∧ ∀ (j : Nat) o, (objsT own a.2 k)[j]? = some o → Behind w0.heap.size own μ h ν' w (k + j) o ((srcT h a.2 (cellsIn v))[j]?) := by
    intro v ha hm hv hc1
    rw [hc1]
    obtain ⟨ν', a1, a2, a3, a4⟩ := import_T H own a.2 k ν [v] [V] hm (.cons hv .nil) hk h0
    refine ⟨ν', a1, a2, ?_, a4⟩
    unfold argOf
    rw [ha]
    cases hc : cellsT a.2 k with
    | nil => rw [hc] at a3; have := a3.1; simp at this
    | cons x l => rw [hc] at a3; obtain ⟨V', L, e, hx, _⟩ := a3.cons_inv; cases e; exact hx
  cases v with
  | agg cs =>
    obtain ⟨h1, h2⟩ := (Bool.and_eq_true _ _).mp (show (a.1 && matchT h own a.2 cs.toList) = true from hm)
    obtain ⟨Cs, rfl, hs⟩ := hv.agg_inv
    obtain ⟨ν', a1, a2, a3, a4⟩ := import_T H own a.2 k ν _ _ h2 hs hk h0
    refine ⟨ν', a1, a2, ?_, a4⟩
    unfold argOf
    rw [h1]
    exact .agg' a3
  | _ =>
    obtain ⟨h1, h2⟩ := (Bool.and_eq_true _ _).mp hm
    exact one _ (by simpa using h1) h2 hv rfl
theorem import_A {good : Code → Prop} {w0 : World} {μ : Mu} {h : Heap} {w : World} (H : HRel good w0 μ h w) (own : Bool) (A : List (Bool × DT)) : ∀ (k : Nat) (ν : Mu) (args ARGS : List Value), matchA h own A args = true → VRels μ args ARGS → (∀ i, k ≤ i → ν i = none) → 0 < k →
    ∃ ν', ν.le ν' ∧ (∀ i e, ν' i = some e → ν i = some e ∨ (k ≤ i ∧ i < k + cntA A)) ∧ VRels ν' (argsA A k) ARGS ∧ ∀ (j : Nat) o, (objsA own A k)[j]? = some o → Behind w0.heap.size own μ h ν' w (k + j) o ((srcA h A args)[j]?) := by
  induction A with
  | nil =>
    intro k ν args ARGS hm hv hk h0
    cases args with
    | cons x xs => exact absurd hm (by simp [matchA, lrec])
    | nil => exact ⟨ν, .refl _, fun i e a => .inl a, by rw [hv.nil_inv]; exact .nil, fun j o a => by simp [objsA, lrec] at a⟩
  | cons a A ih =>
    intro k ν args ARGS hm hv hk h0
    cases args with
    | nil => exact absurd hm (by simp [matchA, lrec])
    | cons x xs =>
      obtain ⟨h1, h2⟩ := (Bool.and_eq_true _ _).mp (show (argIs h own a x && matchA h own A xs) = true from hm)
      obtain ⟨V, L, rfl, hV, hL⟩ := hv.cons_inv
      obtain ⟨ν1, b1, b2, b3, b4⟩ := import_arg H own a k ν x V h1 hV hk h0
      obtain ⟨ν', a1, a2, a3, a4⟩ := ih (k + cntT a.2) ν1 xs L h2 hL (fun i hi => by
        cases hν : ν1 i with
        | none => rfl
        | some f =>
          rcases b2 i f hν with b | b
          · rw [hk i (by omega)] at b; simp at b
          · omega) (by omega)
      refine ⟨ν', b1.trans a1, ?_, .cons (b3.mono a1) a3, ?_⟩
      · intro i f hi
        show ν i = some f ∨ (k ≤ i ∧ i < k + (cntT a.2 + cntA A))
        rcases a2 i f hi with b | b
        · rcases b2 i f b with b | b
          · exact .inl b
          · right; omega
        · right; omega
      · intro j o hj
        have hj : (objsT own a.2 k ++ objsA own A (k + cntT a.2))[j]? = some o := hj
        have hsrc : (srcA h (a :: A) (x :: xs))[j]? = (srcT h a.2 (cellsIn x) ++ srcA h A xs)[j]? := rfl
        rw [hsrc, List.getElem?_append, srcT_len]
        rw [List.getElem?_append, objsT_len] at hj
        split at hj
        · rename_i hj2
          rw [if_pos hj2]; exact (b4 j o hj).mono a1
        · rename_i hj2
          have := a4 _ o hj
          rw [show k + j = k + cntT a.2 + (j - cntT a.2) from by omega, if_neg hj2]; exact this
noncomputable def allocs (l : List AObj) : Heap → Heap := lrec (fun h => h) (fun o _ ih h => ih (h.alloc o)) l
theorem allocs_next (l : List AObj) : ∀ h : Heap, (allocs l h).next = h.next + l.length := by
  induction l with
  | nil => intro h; rfl
  | cons o l ih => intro h; show (allocs l (h.alloc o)).next = _; rw [ih, Heap.next_alloc, List.length_cons]; omega
theorem allocs_old (l : List AObj) : ∀ (h : Heap) (i : Nat), i < h.next → (allocs l h).get i = h.get i := by
  induction l with
  | nil => intro h i _; rfl
  | cons o l ih => intro h i hi; show (allocs l (h.alloc o)).get i = _; rw [ih _ _ (by rw [Heap.next_alloc]; omega), Heap.get_alloc_ne _ _ (by omega)]
theorem allocs_new (l : List AObj) : ∀ (h : Heap) (j : Nat) (o : AObj), l[j]? = some o → (allocs l h).get (h.next + j) = some o := by
  induction l with
  | nil => intro h j o hj; simp at hj
  | cons x l ih =>
    intro h j o hj
    show (allocs l (h.alloc x)).get _ = _
    cases j with
    | zero => simp at hj; subst hj; rw [Nat.add_zero, allocs_old _ _ _ (by rw [Heap.next_alloc]; omega), Heap.get_alloc_self]
    | succ j =>
      have := ih (h.alloc x) j o (by simpa using hj)
      rw [Heap.next_alloc] at this
      rw [show h.next + (j + 1) = h.next + 1 + j from by omega]; exact this
theorem allocs_at (l : List AObj) (h : Heap) {j : Nat} {o : AObj} (hj : j < l.length) (hg : (allocs l h).get (h.next + j) = some o) : l[j]? = some o := by
  obtain ⟨x, hx⟩ : ∃ x, l[j]? = some x := ⟨_, List.getElem?_eq_getElem hj⟩
  rw [allocs_new l h j x hx] at hg
  rw [hx]; exact hg
theorem start_rel {good : Code → Prop} {w0 : World} {μ : Mu} {h : Heap} {w : World} (H : HRel good w0 μ h w) {A : List (Bool × DT)} {args ARGS : List Value} (hm : matchA h false A args = true) (hv : VRels μ args ARGS) {b : Nat} (ν : Mu) (hν : ∀ i e, ν i = some e → i < b ∧ i ≠ 0) (hb : 0 < b) (good' : Code → Prop) :
    ∃ ν', ν.le ν' ∧ HRel good' w ν' (allocs (objsA false A b) ⟨b, .nil⟩) w ∧ VRels ν' (argsA A b) ARGS := by
  obtain ⟨ν', a1, a2, a3, a4⟩ := import_A H false A b ν args ARGS hm hv (fun i hi => by
    cases e : ν i with
    | none => rfl
    | some f => have := (hν i f e).1; omega) hb
  have hdom : ∀ i e, ν' i = some e → i < b + cntA A ∧ i ≠ 0 := fun i e hi => by
    rcases a2 i e hi with q | q
    · have := hν i e q; omega
    · omega
  have hat : ∀ i e o, ν' i = some e → (allocs (objsA false A b) ⟨b, .nil⟩).get i = some o → ∃ j, i = b + j ∧ (objsA false A b)[j]? = some o := fun i e o hi ho => by
    rcases Nat.lt_or_ge i b with q | q
    · rw [allocs_old _ ⟨b, .nil⟩ i q] at ho; simp [Heap.get, NT.get_nil] at ho
    · refine ⟨i - b, by omega, ?_⟩
      have hl := (hdom i e hi).1
      refine allocs_at _ ⟨b, .nil⟩ (by rw [objsA_len]; omega) ?_
      show (allocs (objsA false A b) ⟨b, .nil⟩).get (b + (i - b)) = some o
      rw [show b + (i - b) = i from by omega]; exact ho
  refine ⟨ν', a1, ⟨rfl, rfl, Nat.le_refl _, fun _ _ => rfl, ?_, ?_, ?_, ?_⟩, a3⟩
  · intro i e hi
    rw [allocs_next, objsA_len]; exact hdom i e hi
  · rw [allocs_next]; show 0 < b + _; omega
  · intro i e o hi ho
    obtain ⟨j, rfl, hj⟩ := hat i e o hi ho
    obtain ⟨h3, e', h1, h2, _⟩ := a4 j o hj
    rw [hi] at h1; cases h1
    have ho' := h3 rfl
    have : ORel good' w0.heap.size ν' e o w.heap[e.blk]? := h2 _ _ (Nat.le_refl _)
    cases o with
    | row cs z b => exact let ⟨C, el, fz, q1, q2, q3, q4, q5, _⟩ := this; ⟨C, el, fz, q1, q2, q3, q4, q5, fun h => by rw [show b = false from ho'] at h; simp at h⟩
    | dead => trivial
    | _ => simp [AObj.own] at ho'
  · intro i j e f o p _ hi _ ho _ hown
    obtain ⟨j, rfl, hj⟩ := hat i e o hi ho
    rw [(a4 j o hj).1 rfl] at hown
    simp at hown
theorem finish_rel {good good' : Code → Prop} {w0 : World} {μ ν : Mu} {h hi : Heap} {w w' : World} (H : HRel good w0 μ h w) (Hi : HRel good' w ν hi w') {R : List (Bool × DT)} {v V : Value} (hv : VRel ν v V) (hr : resIs hi R v = true) (h1m : distinct (srcA hi R (partsIn R v)) = true) :
    ∃ μ', μ.le μ' ∧ Fresh h.next μ μ' ∧ h.next ≤ (allocs (objsA true R h.next) h).next ∧ HRel good w0 μ' (allocs (objsA true R h.next) h) w' ∧ VRel μ' (resOf R h.next) V := by
  have hf : ∀ i, h.next ≤ i → μ i = none := fun i hi => by
    cases e : μ i with
    | none => rfl
    | some x => have := (H.dom _ _ e).1; omega
  have main : ∃ μ', μ.le μ' ∧ (∀ i e, μ' i = some e → μ i = some e ∨ (h.next ≤ i ∧ i < h.next + cntA R)) ∧ VRel μ' (resOf R h.next) V ∧ ∀ (j : Nat) o, (objsA true R h.next)[j]? = some o → Behind w.heap.size true ν hi μ' w' (h.next + j) o ((srcA hi R (partsIn R v))[j]?) := by
    have many : ∀ vs : Array Value, v = .tuple vs → matchA hi true R vs.toList = true → (∀ x, packResults x = mkTup x ∨ ∃ y, x = [y]) → (∀ y k, argsA R k ≠ [y]) → partsIn R v = vs.toList → ∃ μ', μ.le μ' ∧ (∀ i e, μ' i = some e → μ i = some e ∨ (h.next ≤ i ∧ i < h.next + cntA R)) ∧ VRel μ' (resOf R h.next) V ∧ ∀ (j : Nat) o, (objsA true R h.next)[j]? = some o → Behind w.heap.size true ν hi μ' w' (h.next + j) o ((srcA hi R (partsIn R v))[j]?) := by
      intro vs e hm hp hne hpi
      rw [hpi]
      subst e
      obtain ⟨Vs, rfl, hs⟩ := hv.tuple_inv
      obtain ⟨μ', a1, a2, a3, a4⟩ := import_A Hi true R h.next μ _ _ hm hs hf H.pos
      refine ⟨μ', a1, a2, ?_, a4⟩
      unfold resOf
      rcases hp (argsA R h.next) with q | ⟨y, q⟩
      · rw [q]; exact .tup' a3
      · exact absurd q (hne y _)
    have pk : ∀ x, packResults x = mkTup x ∨ ∃ y, x = [y] := fun x => by
      match x with
      | [] => exact .inl rfl
      | [y] => exact .inr ⟨y, rfl⟩
      | _ :: _ :: _ => exact .inl rfl
    match R with
    | [] =>
      cases v <;> simp [resIs] at hr
      exact many _ rfl hr pk (fun y k hy => by simp [argsA, lrec] at hy) rfl
    | [a] =>
      obtain ⟨μ', a1, a2, a3, a4⟩ := import_arg Hi true a h.next μ v V hr hv hf H.pos
      refine ⟨μ', a1, fun i e hi => ?_, a3, fun j o hj => ?_⟩
      · show μ i = some e ∨ (h.next ≤ i ∧ i < h.next + (cntT a.2 + 0)); exact a2 i e hi
      · have hj : (objsT true a.2 h.next ++ [])[j]? = some o := hj
        rw [List.append_nil] at hj
        have hsrc : srcA hi [a] (partsIn [a] v) = srcT hi a.2 (cellsIn v) := List.append_nil _
        rw [hsrc]; exact a4 j o hj
    | a :: b :: R =>
      cases v <;> simp [resIs] at hr
      exact many _ rfl hr pk (fun y k hy => by simp [argsA, lrec] at hy) rfl
  obtain ⟨μ', a1, a2, a3, a4⟩ := main
  have hdom : ∀ i e, μ' i = some e → i < h.next + cntA R ∧ i ≠ 0 := fun i e q => by
    rcases a2 i e q with q | q
    · have := H.dom i e q; omega
    · have := H.pos; omega
  have H' := H.below Hi.os Hi.output Hi.size Hi.old
  have hnew : ∀ i e o, μ' i = some e → h.next ≤ i → (allocs (objsA true R h.next) h).get i = some o → ∃ j, i = h.next + j ∧ (objsA true R h.next)[j]? = some o := fun i e o q hi ho => by
    refine ⟨i - h.next, by omega, ?_⟩
    have hl := (hdom i e q).1
    refine allocs_at _ h (by rw [objsA_len]; omega) ?_
    rw [show h.next + (i - h.next) = i from by omega]; exact ho
  refine ⟨μ', a1, fun i e q => (a2 i e q).imp id (·.1), by rw [allocs_next]; omega, ⟨H'.os, H'.output, H'.size, H'.old, ?_, ?_, ?_, ?_⟩, a3⟩
  · intro i e q
    rw [allocs_next, objsA_len]; exact hdom i e q
  · rw [allocs_next]; have := H.pos; omega
  · intro i e o q ho
    rcases Nat.lt_or_ge i h.next with hi | hi
    · rw [allocs_old _ h i hi] at ho
      rcases a2 i e q with q' | q'
      · exact (H'.obj i e o q' ho).mono a1
      · omega
    · obtain ⟨j, rfl, hj⟩ := hnew i e o q hi ho
      obtain ⟨_, e', h1, h2, _⟩ := a4 j o hj
      rw [q] at h1; cases h1
      exact h2 _ _ H.size
  · intro i j e f o p hij q q' ho hp hown hlive
    rcases Nat.lt_or_ge i h.next with hi | hi
    · rw [allocs_old _ h i hi] at ho
      have qi : μ i = some e := by rcases a2 i e q with q | q <;> first | exact q | omega
      rcases Nat.lt_or_ge j h.next with hj | hj
      · rw [allocs_old _ h j hj] at hp
        have qj : μ j = some f := by rcases a2 j f q' with q | q <;> first | exact q | omega
        exact H.inj i j e f o p hij qi qj ho hp hown hlive
      · obtain ⟨m, rfl, hm⟩ := hnew j f p q' hj hp
        obtain ⟨_, e', h1, _, h3⟩ := a4 m p hm
        rw [q'] at h1; cases h1
        have := (h3 rfl hlive).1
        obtain ⟨X, hX⟩ := (H.obj i e o qi ho).some (by cases o <;> first | rfl | simp [AObj.own] at hown)
        have := (Array.getElem?_eq_some_iff.1 hX).1
        omega
    · obtain ⟨m, rfl, hm⟩ := hnew i e o q hi ho
      obtain ⟨_, e', h1, _, h3⟩ := a4 m o hm
      rw [q] at h1; cases h1
      have holive : o.live = true := by cases o <;> first | rfl | simp [AObj.own] at hown
      obtain ⟨hge, i0, e0, o0, g1, g2, g3, g4, _, g6⟩ := h3 rfl holive
      rcases Nat.lt_or_ge j h.next with hj | hj
      · rw [allocs_old _ h j hj] at hp
        have qj : μ j = some f := by rcases a2 j f q' with q | q <;> first | exact q | omega
        obtain ⟨X, hX⟩ := (H.obj j f p qj hp).some hlive
        have := (Array.getElem?_eq_some_iff.1 hX).1
        omega
      · obtain ⟨m', rfl, hm'⟩ := hnew j f p q' hj hp
        obtain ⟨_, f', k1, _, k3⟩ := a4 m' p hm'
        rw [q'] at k1; cases k1
        obtain ⟨_, i1, e1, o1, f1, f2, f3, _, f5, f6⟩ := k3 rfl hlive
        rw [g6, f6]
        refine Hi.inj i0 i1 e0 e1 o0 o1 (fun heq => ?_) g2 f2 g3 f3 g4 f5
        subst heq
        have := distinct_at h1m g1 f1 (Hi.dom _ _ g2).2
        omega
noncomputable def closedSpec (A R : List (Bool × DT)) (rest : Spec) : Spec := fun args h =>
  match matchA h false A args with
  | true => some (.ret (resOf R h.next) (allocs (objsA true R h.next) h) none)
  | false => rest args h
noncomputable def noSpec : Spec := fun _ _ => none
noncomputable def runIs (C : Ctx) (n : Nat) (f : FuncId) (b : Nat) (A R : List (Bool × DT)) : Bool :=
  match callF C (run C n) f (argsA A b) (allocs (objsA false A b) ⟨b, .nil⟩) with
  | some (.ret v h _) => resIs h R v && distinct (srcA h R (partsIn R v))
  | _ => false
theorem closed_ok {C C' : Ctx} {w0 : World} {gd : List Oper → Bool} (hP : C'.P = C.P) {n : Nat} {f : FuncId} {b : Nat} {A R : List (Bool × DT)} {rest : Spec} (hrun : runIs C n f b A R = true) (hrest : SpecOK C' gd w0 f rest)
    (hOk : ∀ w : World, w0.heap.size ≤ w.heap.size → (∀ b, b < w0.heap.size → w.heap[b]? = w0.heap[b]?) → C.Ok drawOK w) {ν : Mu} (hν : ∀ i e, ν i = some e → i < b ∧ i ≠ 0) (hb : 0 < b) (hG : GRel C ν) :
    SpecOK C' gd w0 f (closedSpec A R rest) := by
  intro μ h w args ARGS res H hG0 hA hs
  unfold closedSpec at hs
  split at hs
  case h_2 => exact hrest μ h w args ARGS res H hG0 hA hs
  rename_i hm
  simp at hs
  subst hs
  obtain ⟨ν', a1, HI, hA'⟩ := start_rel H hm hA ν hν hb (goodP C drawOK)
  unfold runIs at hrun
  split at hrun
  case h_2 => simp at hrun
  rename_i v hi pan hc
  obtain ⟨hrun, h1m⟩ := (Bool.and_eq_true _ _).mp hrun
  have hO := hOk w H.size H.old
  rw [hP]
  refine (callF_sim hO (run_ok hO n) hc (ARGS := ARGS) hA' HI (hG.mono a1)).2.mono ?_
  intro e w' hp
  cases e with
  | returned V =>
    obtain ⟨μ', _, _, _, HI', hv⟩ := hp
    exact finish_rel H HI' hv hrun h1m
  | panicked c => exact hp.elim
  | _ => exact hp.elim
theorem noSpec_ok {C : Ctx} {gd : List Oper → Bool} {w0 : World} {f : FuncId} : SpecOK C gd w0 f noSpec := fun _ _ _ _ _ _ _ _ _ hs => by simp [noSpec] at hs
end Go.Am
