/- Parts T39, T40 of the abstract machine over this program, joined: what each part says stands at its head. -/
import Derived.Test.YtlflfbnnjlkkcaaGreatJT38
set_option linter.unusedSimpArgs false
set_option linter.unusedVariables false
set_option linter.defProp false
namespace Go.Am
open Go Go.Proofs
theorem take?_def (cells : List Value) (off n : Nat) : take? cells off n = if ((cells.drop off).take n).length = n then some ((cells.drop off).take n) else none := by
  unfold take?
  by_cases e : ((cells.drop off).take n).length = n
  · rw [if_pos e, e, Nat.beq_refl]
  · rw [if_neg e]
    cases hb : Nat.beq ((cells.drop off).take n).length n with
    | true => exact absurd (Nat.eq_of_beq_eq_true hb) e
    | false => rfl
theorem take?_s (a : Value) (l : List Value) (o n : Nat) : take? (a :: l) (o + 1) n = take? l o n := rfl
theorem take?_0 (l : List Value) : take? l 0 0 = some [] := rfl
theorem take?_z (a : Value) (l : List Value) (n : Nat) : take? (a :: l) 0 (n + 1) = obind (take? l 0 n) fun r => some (a :: r) := by
  simp only [take?_def, List.drop_zero, List.take_succ_cons, List.length_cons]
  by_cases e : (l.take n).length = n
  · rw [if_pos (by omega), if_pos e]; rfl
  · rw [if_neg (by omega), if_neg e]; rfl
theorem fill_nil (pl : Nat → Option (Nat × Nat)) (cs : List Value) : fillWith pl [] cs = some cs := rfl
theorem fill_cons (pl : Nat → Option (Nat × Nat)) (p : Nat × Value) (ps : List (Nat × Value)) (cs : List Value) : fillWith pl (p :: ps) cs = obind (fill1 pl cs p) (fillWith pl ps) := rfl
theorem fill1_eq (pl : Nat → Option (Nat × Nat)) (cs : List Value) (i : Nat) (v : Value) : fill1 pl cs (i, v) = obind (pl i) fun q => if (cellsOf v).length = q.2 ∧ q.1 + q.2 ≤ cs.length then some (cs.take q.1 ++ (cellsOf v ++ cs.drop (q.1 + q.2))) else none := by
  unfold fill1
  cases pl i with
  | none => rfl
  | some q =>
    simp only [obind_some]
    by_cases e1 : (cellsOf v).length = q.2
    · have b1 : Nat.beq (cellsOf v).length q.2 = true := by rw [e1]; exact Nat.beq_refl _
      by_cases e2 : q.1 + q.2 ≤ cs.length
      · have b2 : Nat.ble (q.1 + q.2) cs.length = true := Nat.ble_eq_true_of_le e2
        rw [if_pos ⟨e1, e2⟩, b1, b2]; rfl
      · have b2 : Nat.ble (q.1 + q.2) cs.length = false := by cases hb : Nat.ble (q.1 + q.2) cs.length with | true => exact absurd (Nat.le_of_ble_eq_true hb) e2 | false => rfl
        rw [if_neg (fun h => e2 h.2), b1, b2]; rfl
    · have b1 : Nat.beq (cellsOf v).length q.2 = false := by cases hb : Nat.beq (cellsOf v).length q.2 with | true => exact absurd (Nat.eq_of_beq_eq_true hb) e1 | false => rfl
      rw [if_neg (fun h => e1 h.1), b1]; rfl
theorem rowPlace_eq (n i : Nat) : rowPlace n i = some (i * n, n) := rfl
theorem cells_nilF : cellsOf .nilFunc = [.nilFunc] := rfl
theorem cells_nilI : cellsOf .nilIface = [.nilIface] := rfl
theorem cells_iface (t : TypeId) (v : Value) : cellsOf (.iface t v) = [.iface t v] := rfl
theorem argsFn_at (l : List Value) (t : Nat) : argsFn l t = l.getD t undef := rfl
theorem K_true (a b : Value) : aPick a b (.bool true) = some (.val a) := rfl
theorem K_false (a b : Value) : aPick a b (.bool false) = some (.val b) := rfl
theorem aBox_eq (v : Value) : aBox v = some (.new (.row (cellsOf v) 0 true) ptrTo) := rfl
theorem aAlloc_eq (C : Ctx) (t : TypeId) : aAlloc C t = obind (C.zero t) fun z => some (.new (.row (cellsOf z) 0 true) ptrTo) := rfl
theorem cells_agg (l : List Value) : cellsOf (.agg ⟨l⟩) = l := rfl
theorem cells_int (k : IntKind) (n : Int) : cellsOf (.int k n) = [.int k n] := rfl
theorem cells_bool (b : Bool) : cellsOf (.bool b) = [.bool b] := rfl
theorem cells_str (s : ByteArray) : cellsOf (.string s) = [.string s] := rfl
theorem cells_slice (p : Option Addr) (n m : Nat) : cellsOf (.slice p n m) = [.slice p n m] := rfl
theorem cells_ptr (p : Option Addr) : cellsOf (.pointer p) = [.pointer p] := rfl
theorem cells_map (p : Option Nat) : cellsOf (.map p) = [.map p] := rfl
theorem cells_func (f : Fn) (a b : Array Value) : cellsOf (.func f a b) = [.func f a b] := rfl
theorem ptrTo_eq (i : Nat) : ptrTo i = .pointer (some ⟨i, 0, none⟩) := rfl
theorem sliceTo_eq (s n c i : Nat) : sliceTo s n c i = .slice (some ⟨i, 0, some s⟩) n c := rfl
theorem mapTo_eq (i : Nat) : mapTo i = .map (some i) := rfl
theorem mkAgg_eq (l : List Value) : mkAgg l = .agg ⟨l⟩ := rfl
theorem mkTup_eq (l : List Value) : mkTup l = .tuple ⟨l⟩ := rfl
theorem X_tup (l : List Value) (i : Nat) : aExtract (.tuple ⟨l⟩) i = obind l[i]? asVal := rfl
theorem nil_ptr (C : Ctx) (a : Addr) : aNilCheck C (.pointer (some a)) = some (.val (.pointer (some a))) := rfl
theorem nil_iface (C : Ctx) (t : TypeId) (v : Value) : aNilCheck C (.iface t v) = some (.val (.iface t v)) := rfl
theorem mkF (ρ : Operand → Value) (f : FuncId) (a b : List Operand) : aMakeFunc ρ (.func f) ⟨a⟩ ⟨b⟩ = some (.val (.func (.func f) ⟨a.map ρ⟩ ⟨b.map ρ⟩)) := rfl
theorem mkM (ρ : Operand → Value) (n : String) (a b : List Operand) : aMakeFunc ρ (.method n) ⟨a⟩ ⟨b⟩ = some (.val (.func (.method n) ⟨a.map ρ⟩ ⟨b.map ρ⟩)) := rfl
theorem mkMap_eq : aMakeMap none = some (.new (.map [] 0) mapTo) := rfl
theorem parts_eq (ρ : Operand → Value) (l : List (Nat × Operand)) : partsOf ρ ⟨l⟩ = l.map fun p => (p.1, ρ p.2) := rfl
theorem asVal_eq (v : Value) : asVal v = some (.val v) := rfl
theorem RR_nil (C : Ctx) (τ : List (List Value)) (h : Heap) : readResults C τ h [] = some [] := rfl
theorem RR_cons (C : Ctx) (τ : List (List Value)) (h : Heap) (r : ResultVar) (l : List ResultVar) : readResults C τ h (r :: l) = obind (readResult C τ h r) fun v => obind (readResults C τ h l) fun vs => some (v :: vs) := rfl
theorem RR_tmp (C : Ctx) (n : Nat) (f : Nat → Value) (h : Heap) (t : Tmp) (l : List ResultVar) : readResults C (T n f) h (.tmp t :: l) = obind (readResults C (T n f) h l) fun vs => some ((if t < n then f t else undef) :: vs) := by
  rw [RR_cons]; simp only [readResult, obind_some, tget_T]
theorem RR_cell (C : Ctx) (n : Nat) (f : Nat → Value) (h : Heap) (t : Tmp) (ty : TypeId) (l : List ResultVar) : readResults C (T n f) h (.cell t ty :: l) = obind (aLoad C ty (if t < n then f t else undef) h) fun v => obind (readResults C (T n f) h l) fun vs => some (v :: vs) := by
  rw [RR_cons]; simp only [readResult, tget_T]
theorem pack_one (v : Value) : packResults [v] = v := rfl
theorem pack_two (v w : Value) : packResults [v, w] = .tuple ⟨[v, w]⟩ := rfl
theorem pack_three (v w x : Value) : packResults [v, w, x] = .tuple ⟨[v, w, x]⟩ := rfl
theorem st_eq (C : Ctx) (t : TypeId) (b o : Nat) (sp : Option Nat) (v : Value) (h : Heap) : aStore C t (.pointer (some ⟨b, o, sp⟩)) v h = obind (obind (h.get b) ownRowOf) fun r => obind (C.size t) fun n =>
    guardB (Nat.beq (cellsOf v).length n) (guardB (allOne (cellsOf v)) (obind (write? r.1 o (cellsOf v)) fun l => some (h.set b (.row l r.2 true)))) := rfl
theorem ownRow_eq (l : List Value) (s : Nat) : ownRowOf (.row l s true) = some (l, s) := rfl
theorem getElem?_zero' {α : Type} (a : α) (l : List α) : (a :: l)[0]? = some a := rfl
def AMS := A2 @L_nil <| A2 @L_ret <| A2 @L_skip <| A2 @L_label <| A2 @L_seq <| A2 @L_block <| A2 @L_scope <| A2 @L_inBlock <| A2 @L_inScope <| A2 @L_loop <| A2 @L_exit <| A2 @L_cond <| A2 @X_some <| A2 @X_none <| A2 @B_true <| A2 @B_false <| A2 @E_block <| A2 @E_code <| A2 @E_loop <| A2 @E_scope <| A2 @E_nil <| A2 @L_region' <| A2 @strips_cons <| A2 @strips_nil <| A2 @RO_nil <| A2 @ROr_ok <| A2 @ROe_val <| A2 @ROe_as <| A2 @ROe_new <| A2 @ROv_some <| A2 @ROh_some <| A2 @ROq_some <| A2 @ROc_ret <| A2 @ROc_panic <| A2 @O_move <| A2 @O_assign <| A2 @O_bin <| A2 @O_un <| A2 @O_pick <| A2 @O_alloc <| A2 @O_box <| A2 @O_build <| A2 @O_buildSlice <| A2 @O_load <| A2 @O_nilCheck <| A2 @O_convert <| A2 @O_makeIface <| A2 @O_makeFunc <| A2 @O_makeMap <| A2 @O_makeSlice <| A2 @O_slice <| A2 @O_fieldAddr <| A2 @O_field <| A2 @O_indexAddr <| A2 @O_index <| A2 @O_lookup <| A2 @O_typeAssert <| A2 @O_extract <| A2 @O_len <| A2 @O_min <| A2 @O_max <| A2 @O_store <| A2 @O_mapUpdate <| A2 @O_insert <| A2 @O_next <| A2 @O_range <| A2 @O_append <| A2 @O_copy <| A2 @O_call <| A2 @O_invoke <| A2 @V_func <| A2 @V_clo <| A2 @O_guard <| A2 @G_true <| A2 @G_false <| A2 @wantedBy_T <| A2 @wb_some <| A2 @boolIs_bool <| A2 @I_add <| A2 @I_sub <| A2 @I_mul <| A2 @I_quo <| A2 @I_rem <| A2 @I_eql <| A2 @I_neq <| A2 @I_lss <| A2 @I_leq <| A2 @I_gtr <| A2 @I_geq <| A2 @S_eql <| A2 @S_neq <| A2 @U_not <| A2 @U_neg <| A2 @K_true <| A2 @K_false <| A2 @aBox_eq <| A2 @aAlloc_eq <| A2 @cells_agg <| A2 @cells_int <| A2 @cells_bool <| A2 @cells_str <| A2 @cells_slice <| A2 @cells_ptr <| A2 @cells_map <| A2 @cells_func <| A2 @ptrTo_eq <| A2 @sliceTo_eq <| A2 @mapTo_eq <| A2 @mkAgg_eq <| A2 @mkTup_eq <| A2 @X_tup <| A2 @nil_ptr <| A2 @nil_iface <| A2 @mkF <| A2 @mkM <| A2 @mkMap_eq <| A2 @parts_eq <| A2 @asVal_eq <| A2 @obind_some <| A2 @guardB_true <| A2 @RR_nil <| A2 @RR_tmp <| A2 @RR_cell <| A2 @pack_one <| A2 @pack_two <| A2 @pack_three <| A2 @st_eq <| A2 @ownRow_eq <| A2 @fill_nil <| A2 @fill_cons <| A2 @fill1_eq <| A2 @rowPlace_eq <| A2 @cells_nilF <| A2 @cells_nilI <| A2 @cells_iface <| A2 @take?_s <| A2 @take?_0 <| A2 @take?_z <| A2 @argsFn_at <| A2 @upd_at <| A2 @P_some <| A2 @P_none <| A2 @ev_tmp <| A2 @ev_const <| A2 @ev_global <| A2 @ev_func <| A2 @RP_nil <| A2 @RP_ex <| A2 @RP_re <| A2 @RPg_true <| A2 @w_eff <| A2 @w_early <| A2 @e_move <| A2 @v_move <| A2 @e_assign <| A2 @v_assign <| A2 @e_pick <| A2 @v_pick <| A2 @e_alloc <| A2 @v_alloc <| A2 @e_box <| A2 @v_box <| A2 @e_build <| A2 @v_build <| A2 @e_buildSlice <| A2 @v_buildSlice <| A2 @e_load <| A2 @v_load <| A2 @e_nilCheck <| A2 @v_nilCheck <| A2 @e_binOp <| A2 @v_binOp <| A2 @e_unOp <| A2 @v_unOp <| A2 @e_convert <| A2 @v_convert <| A2 @e_makeInterface <| A2 @v_makeInterface <| A2 @e_makeFunc <| A2 @v_makeFunc <| A2 @e_makeMap <| A2 @v_makeMap <| A2 @e_makeSlice <| A2 @v_makeSlice <| A2 @e_slice <| A2 @v_slice <| A2 @e_fieldAddr <| A2 @v_fieldAddr <| A2 @e_field <| A2 @v_field <| A2 @e_indexAddr <| A2 @v_indexAddr <| A2 @e_index <| A2 @v_index <| A2 @e_lookup <| A2 @v_lookup <| A2 @e_typeAssert <| A2 @v_typeAssert <| A2 @e_extract <| A2 @v_extract <| A2 @e_store <| A2 @e_mapUpdate <| A2 @e_insert <| A2 @e_range <| A2 @e_next <| A2 @e_call <| A2 @e_invoke <| A2 @e_blen <| A2 @e_bmin <| A2 @e_bmax <| A2 @e_bappend <| A2 @e_bcopy <| A2 @e_bdelete <| A2 @e_brecover <| A2 @v_len <| A2 @v_min <| A2 @v_max <| A2 @w_false <| A2 @wa_none <| A2 @wa_some <| A2 @RPe_val <| A2 @RPe_new <| A2 @RPr_ok <| A2 @RPc_ret <| A2 @RPh_some <| A2 @RPq_some <| A2 @RPr_call <| A2 @RPr_invoke <| A2 @RPr_store <| A2 @RPr_mapUpdate <| A2 @RPr_append <| A2 @rec_val <| A2 @rec_new <| A2 @rec_none <| A2 @find_val <| A2 @find_new <| A2 @find_nil <| A2 @same_val <| A2 @W_some @getElem?_zero'
end Go.Am

namespace Go.Am
open Go Go.Proofs
def PR (Q : Value → Heap → Prop) (h : Heap) : Option (List Value) → Prop
  | some vs => Q (packResults vs) h
  | none => False
def Post (C : Ctx) (rs : List ResultVar) (Q : Value → Heap → Prop) (r : FEnd) (s : FrS) (h' : Heap) : Prop := (r = .ended none ∨ r = .ended (some .ret)) ∧ s.defers = [] ∧ s.pan = none ∧ PR Q h' (readResults C s.tmps h' rs)
theorem Post_ret (C : Ctx) (rs : List ResultVar) (Q : Value → Heap → Prop) (n : Nat) (f : Nat → Value) (h : Heap) : Post C rs Q (.ended (some .ret)) ⟨T n f, [], none⟩ h ↔ PR Q h (readResults C (T n f) h rs) := by
  simp [Post]
theorem PR_some (Q : Value → Heap → Prop) (h : Heap) (vs : List Value) : PR Q h (some vs) ↔ Q (packResults vs) h := Iff.rfl
theorem CW_in {C : Ctx} {f : FuncId} (fn : Func) {c : Code} {args : List Value} {h : Heap} {Q : Value → Heap → Prop} (hA : C.A f = none) (hF : C.F.get f = some fn) (hb : fn.body = some c) (hn : Nat.ble args.length fn.ntmps = true)
    (hw : W (Lim C none [.code c] ⟨T fn.ntmps (argsFn args), [], none⟩ h) (Post C fn.results.toList Q)) : CW C f args h Q := by
  refine CW_of hA hF hb (Nat.le_of_ble_eq_true hn) ?_
  obtain ⟨r, s, h', e, h1, h2, h3, h4⟩ := hw
  refine ⟨r, s, h', e, h1, h2, h3, ?_⟩
  revert h4
  cases readResults C s.tmps h' fn.results.toList with
  | none => exact fun h => h.elim
  | some vs => exact fun h => ⟨vs, rfl, h⟩
theorem W_callP {C : Ctx} {rd : Option Nat} {ops : List Oper} {pl : List PE} {k : List Item} {rs : List Rec} {dst : Option Tmp} {s : FrS} {h : Heap} {Q : FEnd → FrS → Heap → Prop} {f : FuncId} {args : List Value} {P : Value → Heap → Prop}
    (hc : CW C f args h P) (hw : ∀ v h', P v h' → W (RP C rd ops pl k rs (s.put dst v) h') Q) : W (RPc C rd ops pl k rs dst s (callF C (Lim C) f args h)) Q := by
  obtain ⟨v, h', e, hp⟩ := hc
  rw [e, RPc_ret]
  exact hw v h' hp
theorem W_draw {C : Ctx} {rd : Option Nat} {k : List Item} {s : FrS} {h : Heap} {Q : FEnd → FrS → Heap → Prop} {id : Nat} {o : Array Oper} (q : List (Bool × Nat)) (hq : planOf o.toList = planBy o.toList q)
    (hw : W (RP C rd (strips o.toList) (planBy (strips o.toList) q) k [] s h) Q) : W (Lim C rd (.code (.region id o true) :: k) s h) Q := by
  rw [L_draw' q hq]; exact hw
noncomputable def pbc (ops : List Oper) (b : Bool) (i : Nat) (q : List (Bool × Nat)) : Option Oper → List PE
  | some o => (match b with | true => PE.ex i o | false => PE.re i o) :: planBy ops q
  | none => planBy ops q
theorem PB_nil (ops : List Oper) : planBy ops [] = [] := rfl
theorem PB_cons (ops : List Oper) (b : Bool) (i : Nat) (q : List (Bool × Nat)) : planBy ops ((b, i) :: q) = pbc ops b i q (ops[i]?) := by
  show (match ops[i]? with | some o => (if b then PE.ex i o else .re i o) :: planBy ops q | none => planBy ops q) = _
  cases ops[i]? with
  | none => rfl
  | some o => cases b <;> rfl
theorem pbc_ex (ops : List Oper) (i : Nat) (q : List (Bool × Nat)) (o : Oper) : pbc ops true i q (some o) = PE.ex i o :: planBy ops q := rfl
theorem pbc_re (ops : List Oper) (i : Nat) (q : List (Bool × Nat)) (o : Oper) : pbc ops false i q (some o) = PE.re i o :: planBy ops q := rfl
theorem lt_self (a : Nat) : a < a + 1 := Nat.lt_succ_self a
theorem lt_step {a b : Nat} (h : a < b) : a < b + 1 := Nat.lt_succ_of_lt h
theorem fresh_of {h : Heap} {i : Nat} (hk : HOK h) (hi : h.next ≤ i) : freshAt (h.get i) = true := by rw [hk i hi]; rfl
theorem get_at {h : Heap} {i : Nat} (x : AObj) (hi : i = h.next) : (h.alloc x).get i = some x := by subst hi; exact Heap.get_alloc_self h x
theorem rowAt_at {h : Heap} {i : Nat} (l : List Value) (s : Nat) (b : Bool) (hi : i = h.next) : rowAt (h.alloc (.row l s b)) i = some l := by subst hi; exact rowAt_new h l s b
theorem rowAt_set_self (h : Heap) (i : Nat) (l : List Value) (s : Nat) (b : Bool) : rowAt (h.set i (.row l s b)) i = some l := by unfold rowAt; rw [Heap.get_set_self]; rfl
theorem rowAt_set_lt {h : Heap} {i j : Nat} (x : AObj) (hj : j < i) : rowAt (h.set i x) j = rowAt h j := by unfold rowAt; rw [Heap.get_set_ne _ _ (by omega)]
theorem rowAt_set_gt {h : Heap} {i j : Nat} (x : AObj) (hj : i < j) : rowAt (h.set i x) j = rowAt h j := by unfold rowAt; rw [Heap.get_set_ne _ _ (by omega)]
theorem get_set_self' (h : Heap) (i : Nat) (x : AObj) : (h.set i x).get i = some x := Heap.get_set_self h i x
theorem get_set_lt {h : Heap} {i j : Nat} (x : AObj) (hj : j < i) : (h.set i x).get j = h.get j := Heap.get_set_ne _ _ (by omega)
theorem get_set_gt {h : Heap} {i j : Nat} (x : AObj) (hj : i < j) : (h.set i x).get j = h.get j := Heap.get_set_ne _ _ (by omega)
theorem write_one (l : List Value) (o : Nat) (v : Value) (ho : o < l.length) : write? l o [v] = some (l.set o v) := by
  unfold write?
  have : Nat.ble (o + 1) l.length = true := Nat.ble_eq_true_of_le ho
  simp only [this, lset_eq]
theorem write_all (l vs : List Value) (hl : vs.length = l.length) : write? l 0 vs = some vs := by
  unfold write?
  split
  · rename_i v
    cases l with
    | nil => simp at hl
    | cons a l =>
      cases l with
      | nil => rfl
      | cons b l => simp at hl
  · have : Nat.ble (0 + vs.length) l.length = true := Nat.ble_eq_true_of_le (by omega)
    rw [this]
    simp [hl]
theorem one_int (k : IntKind) (n : Int) : oneC (.int k n) = true := rfl
theorem allOne_cons (v : Value) (l : List Value) : allOne (v :: l) = match oneC v with | true => allOne l | false => false := rfl
theorem allOne_nil : allOne [] = true := rfl
theorem oneC_bool (b : Bool) : oneC (.bool b) = true := rfl
theorem oneC_str (s : ByteArray) : oneC (.string s) = true := rfl
theorem oneC_slice (p : Option Addr) (n m : Nat) : oneC (.slice p n m) = true := rfl
theorem oneC_map (p : Option Nat) : oneC (.map p) = true := rfl
theorem oneC_ptr (p : Option Addr) : oneC (.pointer p) = true := rfl
theorem oneC_func (f : Fn) (a b : Array Value) : oneC (.func f a b) = true := rfl
def LS {α : Type} (h : Heap) (v : Value) (xs : List α) (f : α → List Value) (s : Nat) : Prop :=
  (xs = [] ∧ ∃ p c, v = .slice p 0 c) ∨ ∃ b o sp c row, v = .slice (some ⟨b, o, sp⟩) xs.length c ∧ rowAt h b = some row ∧ ∀ (i : Nat) x, xs[i]? = some x → take? row (o + i * s) s = some (f x) ∧ ∀ j, j < s → row[o + i * s + j]? = (f x)[j]?
theorem LS.fr {α : Type} {h h' : Heap} {v : Value} {xs : List α} {f : α → List Value} {s : Nat} (q : LS h v xs f s) (hk : HOK h) (fr : Fr h h') : LS h' v xs f s := by
  rcases q with q | ⟨b, o, sp, c, row, h1, h2, h3⟩
  · exact .inl q
  · exact .inr ⟨b, o, sp, c, row, h1, fr.row' hk h2, h3⟩
theorem LS.len {α : Type} {h : Heap} {v : Value} {xs : List α} {f : α → List Value} {s : Nat} (q : LS h v xs f s) : ∃ p c, v = .slice p xs.length c := by
  rcases q with ⟨rfl, p, c, rfl⟩ | ⟨b, o, sp, c, row, rfl, _⟩
  · exact ⟨p, c, rfl⟩
  · exact ⟨_, _, rfl⟩
theorem flat_take {α : Type} {f : α → List Value} {s : Nat} (hf : ∀ x, (f x).length = s) : ∀ (xs : List α) (i : Nat) (x : α), xs[i]? = some x → ((xs.flatMap f).drop (i * s)).take s = f x
  | [], i, x, h => by simp at h
  | y :: ys, 0, x, h => by
    simp at h; subst h
    simp only [List.flatMap_cons, Nat.zero_mul, List.drop_zero]
    rw [List.take_append_of_le_length (by rw [hf]; exact Nat.le_refl _), List.take_of_length_le (by rw [hf]; exact Nat.le_refl _)]
  | y :: ys, i + 1, x, h => by
    have := flat_take hf ys i x (by simpa using h)
    rw [List.flatMap_cons, Nat.add_mul, Nat.one_mul, Nat.add_comm, ← List.drop_drop, List.drop_append_of_le_length (by rw [hf]; exact Nat.le_refl _), List.drop_of_length_le (l := f y) (by rw [hf]; exact Nat.le_refl _), List.nil_append]
    exact this
theorem flat_len {α : Type} {f : α → List Value} {s : Nat} (hf : ∀ x, (f x).length = s) (xs : List α) : (xs.flatMap f).length = xs.length * s := by
  induction xs with
  | nil => simp
  | cons x xs ih => simp [hf, ih, Nat.add_mul, Nat.add_comm]
theorem LS.of_row {α : Type} {h : Heap} {b c s : Nat} {sp : Option Nat} {xs : List α} {f : α → List Value} (hf : ∀ x, (f x).length = s) (hr : rowAt h b = some (xs.flatMap f)) : LS h (.slice (some ⟨b, 0, sp⟩) xs.length c) xs f s := by
  refine .inr ⟨b, 0, sp, c, _, rfl, hr, fun i x hx => ?_⟩
  have h1 := flat_take hf xs i x hx
  have hi := (List.getElem?_eq_some_iff.1 hx).1
  have h2 : i * s + s ≤ (xs.flatMap f).length := by
    rw [flat_len hf, ← Nat.succ_mul]; exact Nat.mul_le_mul_right s hi
  refine ⟨?_, fun j hj => ?_⟩
  · rw [Nat.zero_add, take?_some h2, h1]
  · rw [Nat.zero_add, ← h1, List.getElem?_take, if_pos hj, List.getElem?_drop]
theorem SL.ls {α : Type} {N : Nat} {h : Heap} {v : Value} {s : Nat} {xs : List α} {f : α → List Value} (hf : ∀ x, (f x).length = s) (q : SL N h v (xs.flatMap f) s xs.length) : LS h v xs f s := by
  rcases q with ⟨rfl, h1, h2⟩ | ⟨b, rfl, _, _, h3, _⟩
  · exact .inl ⟨List.eq_nil_of_length_eq_zero h2, _, _, rfl⟩
  · exact LS.of_row hf (by unfold rowAt; rw [h3]; rfl)
def ints (n : Int) : List Value := [.int .i64 n]
theorem ints_len (n : Int) : (ints n).length = 1 := rfl
def inP (x lo hi : Int) : Bool := decide (lo ≤ x ∧ x ≤ hi)
section
variable {α β : Type} (a d : α) (l m : List α) (n : Nat) (f : α → β)
theorem y_getD_z : (a :: l).getD 0 d = a := rfl
theorem y_getD_s : (a :: l).getD (n + 1) d = l.getD n d := rfl
theorem y_get_s : (a :: l)[n + 1]? = l[n]? := rfl
theorem y_map_c : (a :: l).map f = f a :: l.map f := rfl
theorem y_map_n : ([] : List α).map f = [] := rfl
theorem y_drop_z : l.drop 0 = l := rfl
theorem y_drop_s : (a :: l).drop (n + 1) = l.drop n := rfl
theorem y_take_s : (a :: l).take (n + 1) = a :: l.take n := rfl
theorem y_take_z : l.take 0 = [] := rfl
theorem y_len_c : (a :: l).length = l.length + 1 := rfl
theorem y_len_n : ([] : List α).length = 0 := rfl
theorem y_app_c : (a :: l) ++ m = a :: (l ++ m) := rfl
theorem y_app_n : [] ++ m = m := rfl
end
theorem beq_tt : (true == true) = true := rfl
theorem beq_ft : (false == true) = false := rfl
theorem beq_tf : (true == false) = false := rfl
theorem beq_ff : (false == false) = true := rfl
def AMH := A2 @Post_ret <| A2 @PR_some <| A2 @PB_nil <| A2 @PB_cons <| A2 @pbc_ex <| A2 @pbc_re <| A2 @lt_self <| A2 @lt_step <| A2 @fresh_of <| A2 @get_at <| A2 @get_old <| A2 @rowAt_set_self <| A2 @rowAt_set_lt <| A2 @rowAt_set_gt <| A2 @rowAt_old <| A2 @rowAt_at <| A2 @get_set_self' <| A2 @get_set_lt <| A2 @get_set_gt <| A2 @write_one <| A2 @write_all <| A2 @allOne_cons <| A2 @allOne_nil <| A2 @one_int <| A2 @oneC_bool <| A2 @oneC_str <| A2 @oneC_slice <| A2 @oneC_map <| A2 @oneC_ptr <| A2 @oneC_func <| A2 @HOK.alloc <| A2 @HOK.set <| A2 @Heap.next_alloc <| A2 @Heap.next_set <| A2 @ints_len <| A2 @Nat.le_refl <| A2 @Nat.add_zero <| A2 @Nat.zero_add <| A2 @Nat.zero_lt_succ <| A2 @y_getD_z <| A2 @y_getD_s <| A2 @y_get_s <| A2 @y_map_c <| A2 @y_map_n <| A2 @y_drop_z <| A2 @y_drop_s <| A2 @y_take_s <| A2 @y_take_z <| A2 @y_len_c <| A2 @y_len_n <| A2 @y_app_c <| A2 @y_app_n <| A2 @beq_tt <| A2 @beq_ft <| A2 @beq_tf <| A2 @beq_ff <| A2 @Bool.not_true <| A2 @Bool.not_false @Nat.beq_refl
def AA := A2 @AMS <| A2 @AMH @AY
end Go.Am
