/- Parts Am4, Am5 of the abstract machine over this program, joined: what each part says stands at its head. -/
import Derived.Test.YtlflfbnnjlkkcaaGreatJAm2
set_option linter.unusedSimpArgs false
set_option linter.unusedVariables false
set_option linter.defProp false
namespace Go.Am
open Go
structure EqSpec (P : Program) (t : TypeId) (z : List Value) : Prop where
  eq : ∀ (xs ys : Array Value) (b : Bool), likeAll z xs.toList = true → likeAll xs.toList ys.toList = true → cellsEq xs.toList ys.toList = some b → ∀ w, (Op.equal t (.agg xs) (.agg ys)).run P w = .ok b w
  guard : P.eqGuardType P.depth t = false
  key : ∀ (cs : Array Value) (n : Nat), (P.info? t).map (·.size) = some n → cs.toList.length = n → likeAll z cs.toList = true → ∀ (e : Bool) (w : World), (Instr.checkKey e 10000 t (.agg cs)).run P w = .ok () w
noncomputable def goodO (C : Ctx) : Operand → Bool
  | .const v => plain v
  | .global g => Nat.ble (g + 1) C.P.globals.size
  | _ => true
structure Ctx.Ok0 (C : Ctx) : Prop where
  T : ∀ t i, C.T.get t = some i → C.P.info? t = some i
  Z : ∀ t i z, C.T.get t = some i → i.zero = some z → notTup z = true → plain z = true
  S : ∀ t fs, C.und t = some (.struct fs) → ∀ f ∈ fs.toList, ∃ n, C.size f.type = some n
  eq : ∀ t z, C.eqOk t = true → C.zero t = some z → EqSpec C.P t (cellsOf z)
theorem like_of {C : Ctx} {t : TypeId} {l : List Value} (h : C.like t l = true) : ∃ z, C.zero t = some z ∧ likeAll (cellsOf z) l = true := by
  unfold Ctx.like at h
  split at h
  · rename_i z hz; exact ⟨z, hz, h⟩
  · simp at h
theorem likeAll_basic {z : List Value} : ∀ {l : List Value}, likeAll z l = true → l.all basic = true := by
  induction z with
  | nil =>
    intro l h
    cases l with
    | nil => rfl
    | cons y l => simp [likeAll, lrec_nil] at h
  | cons x z ih =>
    intro l h
    cases l with
    | nil => rfl
    | cons y l =>
      have h : (match sameKind x y with | true => likeAll z l | false => false) = true := h
      cases hk : sameKind x y with
      | false => rw [hk] at h; simp at h
      | true =>
        rw [hk] at h
        rw [List.all_cons, ih h, Bool.and_true]
        cases x <;> cases y <;> first | rfl | (simp [sameKind] at hk; done)
section
variable {C : Ctx} (hC : C.Ok0)
include hC
theorem und_of {t : TypeId} {d : TypeDesc} (h : C.und t = some d) : C.P.underlying t = some d := by
  obtain ⟨i, hi, h1⟩ := obind_eq h
  have h2 := hC.T t i hi
  unfold Program.underlying
  rw [h2]
  obtain ⟨desc, str, size, bytes, hp, al, fal, zero, cmp, ms⟩ := i
  cases desc <;> simp only [undOf] at h1 <;> first
    | (simpa using h1)
    | (obtain ⟨j, hj, h3⟩ := obind_eq h1; simp only [hC.T _ j hj]; simpa using h3)
theorem size_of {t : TypeId} {n : Nat} (h : C.size t = some n) : (C.P.info? t).map (·.size) = some n := by
  obtain ⟨i, hi, h1⟩ := obind_eq h
  rw [hC.T t i hi]; exact h1
theorem und_run {t : TypeId} {d : TypeDesc} (h : C.und t = some d) (w : World) : (underlying t).run C.P w = .ok d w := run_underlying (und_of hC h) w
theorem info_run {t : TypeId} {i : TypeInfo} (h : C.T.get t = some i) (w : World) : (typeInfo t).run C.P w = .ok i w := by
  unfold typeInfo; simp [hC.T t i h]
theorem size_run {t : TypeId} {n : Nat} (h : C.size t = some n) (w : World) : (sizeOf t).run C.P w = .ok n w := by
  obtain ⟨i, hi, h1⟩ := obind_eq h
  simp at h1
  unfold sizeOf; simp [info_run hC hi, h1]
theorem zero_run {t : TypeId} {z : Value} (h : C.zero t = some z) (w : World) : (zeroValue t).run C.P w = .ok z w := by
  obtain ⟨i, hi, h1⟩ := obind_eq h
  obtain ⟨z', hz, h2⟩ := obind_eq h1
  obtain ⟨_, h3⟩ := guardB_eq h2
  simp at h3; subst h3
  unfold zeroValue; simp [info_run hC hi, hz]
theorem zero_plain {t : TypeId} {z : Value} (h : C.zero t = some z) : plain z = true := by
  obtain ⟨i, hi, h1⟩ := obind_eq h
  obtain ⟨z', hz, h2⟩ := obind_eq h1
  obtain ⟨h4, h3⟩ := guardB_eq h2
  simp at h3; subst h3
  exact hC.Z t i _ hi hz h4
theorem agg_run {t : TypeId} {d : TypeDesc} (h : C.und t = some d) (w : World) : (isAgg t).run C.P w = .ok (aggDesc d) w := by
  unfold isAgg; simp only [Sem.run_bind, und_run hC h, Result.andThen_ok]; cases d <;> rfl
end
theorem addr_add {A : Addr} (h : A.spot = none) (n : Nat) : A.add n = ⟨A.block, A.off + n, none⟩ := by
  obtain ⟨b, o, s⟩ := A
  simp only at h; subst h
  unfold Addr.add
  split <;> simp_all
theorem take?_eq {cells l : List Value} {off n : Nat} (h : take? cells off n = some l) : l = (cells.drop off).take n ∧ l.length = n := by
  unfold take? at h
  split at h
  · rename_i hb
    simp at h
    subst h
    exact ⟨rfl, by simpa using Nat.eq_of_beq_eq_true hb⟩
  · simp at h
section
variable {C : Ctx} (hC : C.Ok0) {good : Code → Prop} {w0 : World} {μ : Mu} {h : Heap} {w : World}
include hC
theorem loadVar_sim (H : HRel good w0 μ h w) {t : TypeId} {i off : Nat} {e : Spot} {cells : List Value} {v : Value} (hi : μ i = some e) (hc : rowAt h i = some cells)
    (hp : partOf C t cells off = some v) : ∃ V, (loadVar t ⟨e.blk, e.base + off, none⟩).run C.P w = .ok V w ∧ VRel μ v V := by
  obtain ⟨d, hd, h1⟩ := obind_eq hp
  unfold loadVar
  simp only [Sem.run_bind, agg_run hC hd, Result.andThen_ok]
  cases ha : aggDesc d with
  | true =>
    simp only [ha] at h1
    obtain ⟨n, hn, h2⟩ := obind_eq h1
    obtain ⟨l, hl, h3⟩ := obind_eq h2
    obtain ⟨e1, e2⟩ := take?_eq hl
    obtain ⟨X, el, fz, x1, x2, x3, x5⟩ := H.row hi hc
    have hL : VRels μ l ((((X.toList.drop e.base).take cells.length).drop off).take n) := by rw [e1]; exact (x5.drop off).take n
    generalize hLe : (((X.toList.drop e.base).take cells.length).drop off).take n = L at hL
    have hlen : L.length = n := by rw [← hL.1]; exact e2
    have hget : ∀ j u, L[j]? = some u → w.cell? ((⟨e.blk, e.base + off, none⟩ : Addr).add j) = some u := by
      intro j u hu
      rw [addr_add rfl, cell_of_row w e.blk _ X el fz x1]
      rw [← hLe, List.getElem?_take] at hu
      split at hu
      · rw [List.getElem?_drop, List.getElem?_take] at hu
        split at hu
        · rw [List.getElem?_drop] at hu
          rw [← Array.getElem?_toList, ← hu]; dsimp only; congr 1; omega
        · simp at hu
      · simp at hu
    have := run_loadCells_list (P := C.P) w ⟨e.blk, e.base + off, none⟩ L hget
    rw [hlen] at this
    refine ⟨.agg L.toArray, ?_, ?_⟩
    · simp [size_run hC hn, this]
    · simp at h3; subst h3; exact .agg' hL
  | false =>
    simp only [ha] at h1
    rw [lget_eq] at h1
    obtain ⟨V, hV, hr⟩ := H.cell hi hc h1
    exact ⟨V, by simp [hV], hr⟩
theorem part_sim {t : TypeId} {cs : List Value} {Cs : Array Value} (hr : VRels μ cs Cs.toList) {off : Nat} {v : Value} (hp : partOf C t cs off = some v) :
    ∃ V, (part t Cs off).run C.P w = .ok V w ∧ VRel μ v V := by
  obtain ⟨d, hd, h1⟩ := obind_eq hp
  unfold part
  simp only [Sem.run_bind, agg_run hC hd, Result.andThen_ok]
  cases ha : aggDesc d with
  | true =>
    simp only [ha] at h1
    obtain ⟨n, hn, h2⟩ := obind_eq h1
    obtain ⟨l, hl, h3⟩ := obind_eq h2
    obtain ⟨e1, e2⟩ := take?_eq hl
    refine ⟨.agg (Cs.extract off (off + n)), by simp [size_run hC hn], ?_⟩
    simp at h3; subst h3
    have : (Cs.extract off (off + n)) = ⟨(Cs.toList.drop off).take n⟩ := by
      apply Array.ext'; simp [List.extract_eq_take_drop]
    rw [this, e1]
    exact .agg' ((hr.drop off).take n)
  | false =>
    simp only [ha] at h1
    rw [lget_eq] at h1
    obtain ⟨V, hV, hv⟩ := hr.get h1
    rw [Array.getElem?_toList] at hV
    exact ⟨V, by simp [hV], hv⟩
end
theorem ptrOf_eq {v : Value} {a : Addr} (h : ptrOf v = some a) : v = .pointer (some a) := by
  cases v with
  | pointer p => simp only [ptrOf] at h; rw [h]
  | _ => simp [ptrOf] at h
theorem natIn_eq {lo hi n : Nat} {i : Int} (h : natIn lo hi i = some n) : i = (n : Int) ∧ lo ≤ n ∧ n ≤ hi := by
  cases i with
  | ofNat m =>
    obtain ⟨h1, h2⟩ := guardB_eq h
    simp at h2; subst h2
    simp only [Bool.and_eq_true] at h1
    exact ⟨rfl, Nat.le_of_ble_eq_true h1.1, Nat.le_of_ble_eq_true h1.2⟩
  | negSucc m => simp [natIn] at h
theorem natBelow_eq {len n : Nat} {i : Int} (h : natBelow len i = some n) : i = (n : Int) ∧ n < len := by
  cases i with
  | ofNat m =>
    obtain ⟨h1, h2⟩ := guardB_eq h
    simp at h2; subst h2
    exact ⟨rfl, Nat.le_of_ble_eq_true h1⟩
  | negSucc m => simp [natBelow] at h
theorem beq_false_ne {a b : Nat} (h : (!(Nat.beq a b)) = true) : a ≠ b := by
  intro e; subst e; simp at h
section
variable {C : Ctx} (hC : C.Ok0) {good : Code → Prop} {w0 : World} {μ : Mu} {h : Heap} {w : World}
include hC
theorem load_sim (H : HRel good w0 μ h w) {t : TypeId} {p v P' : Value} (hv : aLoad C t p h = some v) (hr : VRel μ p P') :
    ∃ V, (Instr.loadAt t P').run C.P w = .ok V w ∧ VRel μ v V := by
  obtain ⟨a, ha, h1⟩ := obind_eq hv
  obtain ⟨cells, hc, h2⟩ := obind_eq h1
  obtain rfl := ptrOf_eq ha
  obtain ⟨A, rfl, hs, e, hi, e1, e2⟩ := hr.ptr_inv
  obtain ⟨V, hV, hr'⟩ := loadVar_sim hC H hi hc h2
  refine ⟨V, ?_, hr'⟩
  have : A = ⟨e.blk, e.base + a.off, none⟩ := by obtain ⟨b, o, s⟩ := A; simp only at hs e1 e2; subst hs; subst e1; subst e2; rfl
  subst this
  simp [Instr.loadAt, Instr.sureAddr, hV]
omit hC in
theorem fieldAt_of {t : TypeId} {i o ft n : Nat} (hf : C.fieldAt t i = some (o, ft, n)) : ∃ fs f, C.und t = some (.struct fs) ∧ fs[i]? = some f ∧ f.offset = o ∧ f.type = ft ∧ C.size ft = some n := by
  obtain ⟨d, hd, h1⟩ := obind_eq hf
  cases d <;> simp only [fieldIn] at h1 <;> try (simp at h1; done)
  rename_i fs
  obtain ⟨f, hfi, h2⟩ := obind_eq h1
  obtain ⟨m, hm, h3⟩ := obind_eq h2
  simp at h3
  rw [Array.getElem?_toList] at hfi
  exact ⟨fs, f, hd, hfi, h3.1, h3.2.1, by rw [← h3.2.1, ← h3.2.2]; exact hm⟩
theorem fieldAddr_sim {t : TypeId} {p P' : Value} {i : Nat} {ev : EV} (hv : aFieldAddr C t p i = some ev) (hr : VRel μ p P') :
    ∃ v V, ev = .val v ∧ (Instr.fieldAt t P' i).run C.P w = .ok V w ∧ VRel μ v V := by
  obtain ⟨⟨o, ft, n⟩, hq, h1⟩ := obind_eq hv
  obtain ⟨a, ha, h2⟩ := obind_eq h1
  obtain ⟨h3, h4⟩ := guardB_eq h2
  obtain rfl := ptrOf_eq ha
  obtain ⟨A, rfl, hs, e, hi, e1, e2⟩ := hr.ptr_inv
  obtain ⟨fs, f, hd, hf, f1, f2, hn⟩ := fieldAt_of hq
  subst f1; subst f2
  have hn0 : n ≠ 0 := beq_false_ne h3
  simp [asVal] at h4
  subst h4
  refine ⟨_, .pointer (some ⟨A.block, A.off + f.offset, none⟩), rfl, ?_, .ptr _ _ ⟨rfl, e, hi, e1, ?_⟩⟩
  · simp [Instr.fieldAt, und_run hC hd, hf, Instr.sureAddr, fieldPlace, size_run hC hn, hn0, addr_add hs]
  · dsimp only; rw [e2]; omega
omit hC in
theorem aggOf_eq {v : Value} {cs : List Value} (h : aggOf v = some cs) : v = .agg ⟨cs⟩ := by
  cases v with
  | agg xs => simp [aggOf] at h; subst h; rfl
  | _ => simp [aggOf] at h
theorem field_sim {t : TypeId} {p P' : Value} {i : Nat} {ev : EV} (hv : aField C t p i = some ev) (hr : VRel μ p P') :
    ∃ v V, ev = .val v ∧ (Instr.field t P' i).run C.P w = .ok V w ∧ VRel μ v V := by
  obtain ⟨⟨o, ft, n⟩, hq, h1⟩ := obind_eq hv
  obtain ⟨cs, ha, h2⟩ := obind_eq h1
  obtain ⟨v, hp, h3⟩ := obind_eq h2
  simp [asVal] at h3
  obtain rfl := aggOf_eq ha
  obtain ⟨Xs, rfl, hs⟩ := hr.agg_inv
  obtain ⟨fs, f, hd, hf, f1, f2, hn⟩ := fieldAt_of hq
  subst f1; subst f2
  obtain ⟨V, hV, hr'⟩ := part_sim (w := w) hC hs hp
  exact ⟨v, V, h3.symm, by simp [Instr.field, und_run hC hd, hf, asAgg, hV], hr'⟩
omit hC in
theorem intOfV_eq {v : Value} {i : Int} (h : intOfV v = some i) : ∃ k, v = .int k i := by
  cases v with
  | int k n => simp [intOfV] at h; subst h; exact ⟨k, rfl⟩
  | _ => simp [intOfV] at h
theorem indexAddr_sim {t : TypeId} {x ix X IX v : Value} (hv : aIndexAddr C t x ix = some v) (hx : VRel μ x X) (hix : VRel μ ix IX) :
    ∃ V, (Instr.indexAt t X IX).run C.P w = .ok V w ∧ VRel μ v V := by
  obtain ⟨i, hi, h1⟩ := obind_eq hv
  obtain ⟨d, hd, h2⟩ := obind_eq h1
  obtain ⟨k, rfl⟩ := intOfV_eq hi
  obtain rfl := hix.int_inv
  cases d <;> simp only [indexAddrIn] at h2 <;> try (simp at h2; done)
  · rename_i el
    split at h2
    · rename_i a len cap
      obtain ⟨j, hj, h3⟩ := obind_eq h2
      obtain ⟨n, hn, h4⟩ := obind_eq h3
      obtain ⟨rfl, hlt⟩ := natBelow_eq hj
      obtain ⟨A, C', rfl, hc, hnC, hs⟩ := hx.slice_inv
      simp [addrAt] at h4; subst h4
      obtain ⟨e, he, s1, s2, s3⟩ : ∃ e, μ a.block = some e ∧ A.spot = none ∧ A.block = e.blk ∧ A.off = e.base + a.off := by
        rcases hs with ⟨_, h'⟩ | ⟨_, e, he, (⟨s1, s2, s3, _⟩ | h')⟩
        · omega
        · exact ⟨e, he, s1, s2, s3⟩
        · omega
      refine ⟨.pointer (some ⟨A.block, A.off + j * n, none⟩), ?_, .ptr _ _ ⟨rfl, e, he, s2, by dsimp only; rw [s3]; omega⟩⟩
      simp [Instr.indexAt, asIntOf, und_run hC hd, size_run hC hn, hlt, addr_add s1]
    · simp at h2
  · rename_i len el
    obtain ⟨a, ha, h3⟩ := obind_eq h2
    obtain ⟨j, hj, h4⟩ := obind_eq h3
    obtain ⟨n, hn, h5⟩ := obind_eq h4
    obtain ⟨rfl, hlt⟩ := natBelow_eq hj
    obtain rfl := ptrOf_eq ha
    obtain ⟨A, rfl, hs, e, hi', e1, e2⟩ := hx.ptr_inv
    simp [addrAt] at h5; subst h5
    refine ⟨.pointer (some ⟨A.block, A.off + j * n, none⟩), ?_, .ptr _ _ ⟨rfl, e, hi', e1, by dsimp only; rw [e2]; omega⟩⟩
    simp [Instr.indexAt, asIntOf, und_run hC hd, Instr.sureAddr, size_run hC hn, hlt, addr_add hs]
end
section
variable {C : Ctx} (hC : C.Ok0) {good : Code → Prop} {w0 : World} {μ : Mu} {h : Heap} {w : World}
include hC
theorem index_sim {t : TypeId} {x ix X IX v : Value} (hv : aIndex C t x ix = some v) (hx : VRel μ x X) (hix : VRel μ ix IX) :
    ∃ V, (Instr.index t X IX).run C.P w = .ok V w ∧ VRel μ v V := by
  obtain ⟨i, hi, h1⟩ := obind_eq hv
  obtain ⟨d, hd, h2⟩ := obind_eq h1
  obtain ⟨k, rfl⟩ := intOfV_eq hi
  obtain rfl := hix.int_inv
  cases d <;> simp only [indexIn] at h2 <;> try (simp at h2; done)
  · split at h2
    · rename_i s
      obtain ⟨j, hj, h3⟩ := obind_eq h2
      obtain ⟨b, hb, h4⟩ := obind_eq h3
      obtain ⟨rfl, hlt⟩ := natBelow_eq hj
      obtain rfl := hx.string_inv
      rw [lget_eq] at hb
      simp at h4; subst h4
      refine ⟨.int .u8 b.toNat, ?_, .plain _ rfl⟩
      have hs : s[j]? = some b := by
        have hsz : j < s.size := by rw [Array.length_toList] at hlt; exact hlt
        rw [getElem?_pos s j hsz]
        have : s.data.toList[j]? = some (s.data[j]'hsz) := by rw [Array.getElem?_toList]; exact Array.getElem?_eq_getElem hsz
        rw [this] at hb
        exact hb
      have hif : (if (0 : Int) ≤ (j : Int) then s[(j : Int).toNat]? else none) = some b := by
        rw [if_pos (Int.natCast_nonneg j), Int.toNat_natCast]; exact hs
      simp only [Instr.index, asIntOf, Sem.run_bind, Sem.run_pure, Result.andThen_ok, und_run hC hd]
      rw [hif]
      rfl
    · simp at h2
  · rename_i len el
    split at h2
    · rename_i cs
      obtain ⟨j, hj, h3⟩ := obind_eq h2
      obtain ⟨n, hn, h4⟩ := obind_eq h3
      obtain ⟨rfl, hlt⟩ := natBelow_eq hj
      obtain ⟨Xs, rfl, hs⟩ := hx.agg_inv
      obtain ⟨V, hV, hr⟩ := part_sim (w := w) hC hs h4
      exact ⟨V, by simp [Instr.index, asIntOf, und_run hC hd, hlt, size_run hC hn, hV], hr⟩
    · simp at h2
end
end Go.Am

namespace Go.Am
open Go
theorem bytes_loop (s : ByteArray) : ∀ (n i : Nat) (r : List UInt8), s.size - i = n → ByteArray.toList.loop s i r = r.reverse ++ s.data.toList.drop i := by
  intro n
  induction n with
  | zero =>
    intro i r h
    rw [ByteArray.toList.loop]
    have h1 : ¬ i < s.size := by omega
    rw [if_neg h1]
    have : s.data.toList.drop i = [] := by
      apply List.drop_eq_nil_of_le
      have : s.data.toList.length = s.size := Array.length_toList
      omega
    rw [this, List.append_nil]
  | succ n ih =>
    intro i r h
    rw [ByteArray.toList.loop]
    have h1 : i < s.size := by omega
    rw [if_pos h1, ih (i + 1) _ (by omega), List.reverse_cons, List.append_assoc]
    congr 1
    have hl : i < s.data.toList.length := by rw [Array.length_toList]; exact h1
    rw [List.drop_eq_getElem_cons hl]
    have : s.get! i = s.data.toList[i] := by
      have hi : i < s.data.size := h1
      show s.data[i]! = _
      rw [getElem!_pos s.data i hi, Array.getElem_toList]
    rw [this]; rfl
theorem bytes_toList (s : ByteArray) : s.toList = s.data.toList := by
  unfold ByteArray.toList; rw [bytes_loop s _ 0 [] rfl]; simp
theorem byteEq_eq (a : List UInt8) : ∀ b, byteEq a b = (a == b) := by
  induction a with
  | nil => intro b; cases b <;> rfl
  | cons x a ih =>
    intro b
    cases b with
    | nil => rfl
    | cons y b =>
      have e : byteEq (x :: a) (y :: b) = (match Nat.beq x.toNat y.toNat with | true => byteEq a b | false => false) := rfl
      rw [e]
      by_cases h : x = y
      · subst h
        have : Nat.beq x.toNat x.toNat = true := Nat.beq_refl _
        rw [this]; simp [ih]
      · have : Nat.beq x.toNat y.toNat = false := by
          cases hb : Nat.beq x.toNat y.toNat with
          | false => rfl
          | true => exact absurd (UInt8.toNat_inj.1 (Nat.eq_of_beq_eq_true hb)) h
        rw [this]; simp [h]
theorem strEq_eq' (a b : ByteArray) : strEq a b = (a == b) := by
  unfold strEq
  have e : (a == b) = (a.data == b.data) := rfl
  rw [byteEq_eq, e, Bool.eq_iff_iff, beq_iff_eq, beq_iff_eq]
  exact ⟨fun h => Array.ext' h, fun h => by rw [h]⟩
theorem append_eq (a b : ByteArray) : (⟨⟨a.data.toList ++ b.data.toList⟩⟩ : ByteArray) = a ++ b := by
  apply ByteArray.ext
  rw [ByteArray.data_append]
  apply Array.ext'
  simp
theorem pureRun_run {α : Type} {P : Program} {s : Sem α} {a : α} (h : pureRun P s = some a) (w : World) : s.run P w = .ok a w := by
  induction s <;> simp only [pureRun] at h <;> try (simp at h; done)
  · simp at h; subst h; rfl
  · rename_i k ih; simp only [Sem.run]; exact ih P h
theorem pureInt_run {P : Program} {s : Sem Value} {v : Value} (h : pureInt P s = some v) (w : World) : s.run P w = .ok v w ∧ cellPlain v = true := by
  obtain ⟨u, hu, h1⟩ := obind_eq h
  cases u <;> simp [intV] at h1
  subst h1
  exact ⟨pureRun_run hu w, rfl⟩
theorem pureStr_run {P : Program} {s : Sem Value} {v : Value} (h : pureStr P s = some v) (w : World) : s.run P w = .ok v w ∧ cellPlain v = true := by
  obtain ⟨u, hu, h1⟩ := obind_eq h
  cases u <;> simp [strV] at h1
  subst h1
  exact ⟨pureRun_run hu w, rfl⟩
theorem cellEq_basic {x y : Value} {b : Bool} (h : cellEq x y = some b) : basic x = true ∧ basic y = true := by
  cases x <;> cases y <;> first | (simp [cellEq] at h; done) | exact ⟨rfl, rfl⟩
theorem VRel.basic {μ : Mu} {x X : Value} (h : VRel μ x X) (hb : Go.Am.basic x = true) : X = x := by
  cases x <;> first | (simp [Go.Am.basic] at hb; done) | exact h.bool_inv | exact h.int_inv | exact h.string_inv
theorem VRels.basic {μ : Mu} {l : List Value} : ∀ {L : List Value}, VRels μ l L → l.all Go.Am.basic = true → L = l := by
  induction l with
  | nil => intro L h _; exact h.nil_inv
  | cons v l ih =>
    intro L h hb
    obtain ⟨V, L', rfl, hv, hs⟩ := h.cons_inv
    simp only [List.all_cons, Bool.and_eq_true] at hb
    rw [hv.basic hb.1, ih hs hb.2]
theorem cellsEq_cons (x y : Value) (xs ys : List Value) : cellsEq (x :: xs) (y :: ys) = (match cellEq x y with | some true => cellsEq xs ys | some false => some false | none => none) := rfl
theorem cellsEq_rel {μ : Mu} {l : List Value} : ∀ {m L M : List Value} {b : Bool}, cellsEq l m = some b → VRels μ l L → VRels μ m M → cellsEq L M = some b := by
  induction l with
  | nil =>
    intro m L M b h hl hm
    obtain rfl := hl.nil_inv
    cases m with
    | nil => obtain rfl := hm.nil_inv; exact h
    | cons y m => simp [cellsEq, lrec_nil] at h
  | cons x l ih =>
    intro m L M b h hl hm
    obtain ⟨X, L', rfl, hx, hl'⟩ := hl.cons_inv
    cases m with
    | nil => simp [cellsEq, lrec_cons] at h
    | cons y m =>
      obtain ⟨Y, M', rfl, hy, hm'⟩ := hm.cons_inv
      rw [cellsEq_cons] at h ⊢
      cases hc : cellEq x y with
      | none => rw [hc] at h; simp at h
      | some c =>
        obtain ⟨b1, b2⟩ := cellEq_basic hc
        rw [hx.basic b1, hy.basic b2, hc]
        rw [hc] at h
        cases c with
        | false => exact h
        | true => exact ih h hl' hm'
def nilPair : Value → Value → Bool
  | .nilIface, .nilIface => true
  | _, _ => false
theorem eqGuard_const {P : Program} {op : BinOp} {t : TypeId} {x y : Operand} (w : World) (h : (isConstO x || isConstO y) = true) :
    (eqGuard op t x y .nilIface .nilIface).run P w = .ok () w := by
  unfold eqGuard
  cases x <;> cases y <;> first
    | (simp [isConstO] at h; done)
    | (cases op <;> simp)
theorem eqGuard_agg {P : Program} {op : BinOp} {t : TypeId} {x y : Operand} {xs ys : Array Value} (w : World) (h : P.eqGuardType P.depth t = false) :
    (eqGuard op t x y (.agg xs) (.agg ys)).run P w = .ok () w := by
  unfold eqGuard
  cases op <;> simp [h]
theorem eqGuard_else {P : Program} {op : BinOp} {t : TypeId} {x y : Operand} {a b : Value} (w : World) (h1 : nilPair a b = false) (h2 : bothAgg a b = false ∨ (aggOf a).isNone = true) :
    (eqGuard op t x y a b).run P w = .ok () w := by
  unfold eqGuard
  cases a <;> cases b <;> first
    | (simp [nilPair] at h1; done)
    | (simp [bothAgg, aggOf] at h2; done)
    | (cases op <;> rfl)
section
variable {C : Ctx} (hC : C.Ok0) {μ : Mu} {w : World}
include hC
theorem onD_eq {t : TypeId} {p : TypeDesc → Bool} {b r : Bool} (h : onD C t p b = some r) : ∃ d, C.P.underlying t = some d ∧ p d = true ∧ r = b := by
  obtain ⟨d, hd, h1⟩ := obind_eq h
  obtain ⟨h2, h3⟩ := guardB_eq h1
  simp at h3
  exact ⟨d, und_of hC hd, h2, h3.symm⟩
theorem eq_sim {t : TypeId} {x y : Operand} {a b A B : Value} {r : Bool} (op : BinOp) (h : aEq C t (isConstO x || isConstO y) a b = some r) (ha : VRel μ a A) (hb : VRel μ b B) :
    (eqGuard op t x y A B).run C.P w = .ok () w ∧ (Op.equal t A B).run C.P w = .ok r w := by
  have hmax : (∀ d, (Op.equalIn (d + 1) t A B).run C.P w = .ok r w) → (Op.equal t A B).run C.P w = .ok r w := fun h => h 9999
  unfold aEq at h
  split at h
  · obtain rfl := ha.bool_inv; obtain rfl := hb.bool_inv
    obtain ⟨d, hd, hp, rfl⟩ := onD_eq hC h
    cases d <;> simp [isBoolD] at hp
    exact ⟨eqGuard_else w rfl (.inr rfl), hmax fun d => by simp [Op.equalIn, run_underlying hd]⟩
  · obtain rfl := ha.nilslice_inv
    obtain ⟨d, hd, hp, rfl⟩ := onD_eq hC h
    cases d <;> simp [isSliceD] at hp
    rename_i q _ _ _
    cases q with
    | none => obtain rfl := hb.nilslice_inv; exact ⟨eqGuard_else w rfl (.inr rfl), hmax fun d => by simp [Op.equalIn, run_underlying hd]⟩
    | some q => obtain ⟨A', C', rfl, _⟩ := hb.slice_inv; exact ⟨eqGuard_else w rfl (.inr rfl), hmax fun d => by simp [Op.equalIn, run_underlying hd]⟩
  · obtain ⟨A', C', rfl, _⟩ := ha.slice_inv; obtain rfl := hb.nilslice_inv
    obtain ⟨d, hd, hp, rfl⟩ := onD_eq hC h
    cases d <;> simp [isSliceD] at hp
    exact ⟨eqGuard_else w rfl (.inr rfl), hmax fun d => by simp [Op.equalIn, run_underlying hd]⟩
  · obtain rfl := ha.nilptr_inv
    obtain ⟨d, hd, hp, rfl⟩ := onD_eq hC h
    cases d <;> simp [isPtrD] at hp
    rename_i q _
    cases q with
    | none => obtain rfl := hb.nilptr_inv; exact ⟨eqGuard_else w rfl (.inr rfl), hmax fun d => by simp [Op.equalIn, run_underlying hd]⟩
    | some q => obtain ⟨A', rfl, _⟩ := hb.ptr_inv; exact ⟨eqGuard_else w rfl (.inr rfl), hmax fun d => by simp [Op.equalIn, run_underlying hd]⟩
  · obtain ⟨A', rfl, _⟩ := ha.ptr_inv; obtain rfl := hb.nilptr_inv
    obtain ⟨d, hd, hp, rfl⟩ := onD_eq hC h
    cases d <;> simp [isPtrD] at hp
    exact ⟨eqGuard_else w rfl (.inr rfl), hmax fun d => by simp [Op.equalIn, run_underlying hd]⟩
  · obtain rfl := ha.nilmap_inv
    obtain ⟨d, hd, hp, rfl⟩ := onD_eq hC h
    cases d <;> simp [isMapD] at hp
    rename_i q _ _
    cases q with
    | none => obtain rfl := hb.nilmap_inv; exact ⟨eqGuard_else w rfl (.inr rfl), hmax fun d => by simp [Op.equalIn, run_underlying hd]⟩
    | some q => obtain ⟨e, rfl, _⟩ := hb.map_inv; exact ⟨eqGuard_else w rfl (.inr rfl), hmax fun d => by simp [Op.equalIn, run_underlying hd]⟩
  · obtain ⟨e, rfl, _⟩ := ha.map_inv; obtain rfl := hb.nilmap_inv
    obtain ⟨d, hd, hp, rfl⟩ := onD_eq hC h
    cases d <;> simp [isMapD] at hp
    exact ⟨eqGuard_else w rfl (.inr rfl), hmax fun d => by simp [Op.equalIn, run_underlying hd]⟩
  · obtain rfl := ha.nilFunc_inv; obtain rfl := hb.nilFunc_inv
    obtain ⟨d, hd, hp, rfl⟩ := onD_eq hC h
    cases d <;> simp [isFuncD] at hp
    exact ⟨eqGuard_else w rfl (.inr rfl), hmax fun d => by simp [Op.equalIn, run_underlying hd]⟩
  · obtain rfl := ha.nilFunc_inv; obtain ⟨_, _, _, rfl, _⟩ := hb.func_inv
    obtain ⟨d, hd, hp, rfl⟩ := onD_eq hC h
    cases d <;> simp [isFuncD] at hp
    exact ⟨eqGuard_else w rfl (.inr rfl), hmax fun d => by simp [Op.equalIn, run_underlying hd]⟩
  · obtain ⟨_, _, _, rfl, _⟩ := ha.func_inv; obtain rfl := hb.nilFunc_inv
    obtain ⟨d, hd, hp, rfl⟩ := onD_eq hC h
    cases d <;> simp [isFuncD] at hp
    exact ⟨eqGuard_else w rfl (.inr rfl), hmax fun d => by simp [Op.equalIn, run_underlying hd]⟩
  · obtain rfl := ha.nilIface_inv; obtain rfl := hb.nilIface_inv
    obtain ⟨hc, h⟩ := guardB_eq h
    obtain ⟨d, hd, hp, rfl⟩ := onD_eq hC h
    cases d <;> simp [isIfaceD] at hp
    exact ⟨eqGuard_const w hc, hmax fun d => by simp [Op.equalIn, run_underlying hd]⟩
  · obtain rfl := ha.nilIface_inv; obtain ⟨_, rfl, _⟩ := hb.iface_inv
    obtain ⟨d, hd, hp, rfl⟩ := onD_eq hC h
    cases d <;> simp [isIfaceD] at hp
    exact ⟨eqGuard_else w rfl (.inr rfl), hmax fun d => by simp [Op.equalIn, run_underlying hd]⟩
  · obtain ⟨_, rfl, _⟩ := ha.iface_inv; obtain rfl := hb.nilIface_inv
    obtain ⟨d, hd, hp, rfl⟩ := onD_eq hC h
    cases d <;> simp [isIfaceD] at hp
    exact ⟨eqGuard_else w rfl (.inr rfl), hmax fun d => by simp [Op.equalIn, run_underlying hd]⟩
  · obtain ⟨hk, h⟩ := guardB_eq h
    obtain ⟨Xs, rfl, hx⟩ := ha.agg_inv
    obtain ⟨Ys, rfl, hy⟩ := hb.agg_inv
    obtain ⟨hk, hk2⟩ := (Bool.and_eq_true _ _).mp hk
    obtain ⟨hk2, hk3⟩ := (Bool.and_eq_true _ _).mp hk2
    obtain ⟨z, hz, hlike⟩ := like_of hk2
    have hs := hC.eq t z hk hz
    have hX := hx.basic (likeAll_basic hlike)
    have hY := hy.basic (likeAll_basic hk3)
    exact ⟨eqGuard_agg w hs.guard, hs.eq Xs Ys r (by rw [hX]; exact hlike) (by rw [hX, hY]; exact hk3) (cellsEq_rel h hx hy) w⟩
  · simp at h
end
def negIf : BinOp → Bool → Bool
  | .neq, r => !r
  | _, r => r
section
variable {C : Ctx} (hC : C.Ok0) {μ : Mu} {w : World}
theorem str_sim {P : Program} {op : BinOp} {a b : ByteArray} {v : Value} (h : aBinStr op a b = some v) : (Op.stringOp op a b).run P w = .ok v w ∧ cellPlain v = true := by
  have e1 : (a.data == b.data) = strEq a b := (strEq_eq' a b).symm
  cases op <;> simp only [aBinStr] at h <;> try (simp at h; done)
  · obtain ⟨h1, h2⟩ := guardB_eq h
    simp at h2; subst h2
    have h3 := Nat.le_of_ble_eq_true h1
    rw [Array.length_toList, Array.length_toList] at h3
    have h4 : ¬ (((a.size + b.size : Nat) : Int) > IntKind.i64.max) := by
      have : IntKind.i64.max = 9223372036854775807 := by decide
      rw [this]
      show ¬ (((a.data.size + b.data.size : Nat) : Int) > _)
      omega
    refine ⟨?_, rfl⟩
    simp only [Op.stringOp]
    rw [if_neg h4]
    simp [mkStr, append_eq]
  all_goals (simp at h; subst h; refine ⟨?_, rfl⟩; simp [Op.stringOp, e1, bytes_toList])
include hC
omit hC in
theorem int_sim {op : BinOp} {k k' : IntKind} {a b : Int} {v : Value} (h : aBinInts C op k a k' b = some v) (t : TypeId) :
    (binOp op t (.int k a) (.int k' b)).run C.P w = .ok v w ∧ cellPlain v = true := by
  have key : ∀ (op : BinOp), op ≠ .shl → op ≠ .shr → k = k' → aBinInt C.P op k a b = some v → (binOp op t (.int k a) (.int k' b)).run C.P w = .ok v w ∧ cellPlain v = true := by
    intro op h1 h2 hk h
    subst hk
    cases op <;> simp only [aBinInt] at h <;> try (first | (exact absurd rfl h1) | (exact absurd rfl h2))
    all_goals first
      | (simp at h; subst h; exact ⟨by simp [binOp, Op.intArith, Op.intCmp, mkInt], rfl⟩)
      | (unfold aQuo at h; split at h; · simp at h
         · rename_i hb; simp at h; subst h; exact ⟨by simp [binOp, Op.intDiv, hb, mkInt], rfl⟩)
      | (unfold aRem at h; split at h; · simp at h
         · rename_i hb; simp at h; subst h; exact ⟨by simp [binOp, Op.intDiv, hb], rfl⟩)
      | (obtain ⟨p, q⟩ := pureInt_run h w; exact ⟨by simpa [binOp] using p, q⟩)
  unfold aBinInts at h
  split at h
  · obtain ⟨p, q⟩ := pureInt_run h w; exact ⟨by simpa [binOp] using p, q⟩
  · obtain ⟨p, q⟩ := pureInt_run h w; exact ⟨by simpa [binOp] using p, q⟩
  · rename_i h1 h2
    split at h
    · rename_i hk; exact key op (fun e => h1 e) (fun e => h2 e) hk h
    · simp at h
omit hC in
theorem binElse {op : BinOp} {t : TypeId} {A B : Value} (hop : op = .eql ∨ op = .neq) (hi : ¬ ∃ k a k' b, A = .int k a ∧ B = .int k' b) (hs : ¬ ∃ a b, A = .string a ∧ B = .string b)
    (hf : ∀ k x, A ≠ .float k x) (hc : ∀ k x y, A ≠ .complex k x y) {r : Bool} (h : (Op.equal t A B).run C.P w = .ok r w) :
    (binOp op t A B).run C.P w = .ok (.bool (negIf op r)) w := by
  rcases hop with rfl | rfl
  all_goals
    cases A <;> cases B <;> first
      | exact absurd rfl (hf _ _)
      | exact absurd rfl (hc _ _ _)
      | exact absurd ⟨_, _, _, _, rfl, rfl⟩ hi
      | exact absurd ⟨_, _, rfl, rfl⟩ hs
      | (simp only [binOp, Sem.run_bind, h]; rfl)
theorem bin_sim {op : BinOp} {t : TypeId} {x y : Operand} {a b A B v : Value} (h : aBin C op t (isConstO x || isConstO y) a b = some v) (ha : VRel μ a A) (hb : VRel μ b B) :
    (do eqGuard op t x y A B; binOp op t A B : Sem Value).run C.P w = .ok v w ∧ cellPlain v = true := by
  unfold aBin at h
  split at h
  · obtain rfl := ha.int_inv; obtain rfl := hb.int_inv
    obtain ⟨p, q⟩ := int_sim (w := w) h t
    exact ⟨by simp only [Sem.run_bind, eqGuard_else w (x := x) (y := y) (op := op) (t := t) (a := .int _ _) (b := .int _ _) rfl (.inr rfl), Result.andThen_ok, p], q⟩
  · obtain rfl := ha.string_inv; obtain rfl := hb.string_inv
    obtain ⟨p, q⟩ := str_sim (w := w) (P := C.P) h
    refine ⟨?_, q⟩
    simp only [Sem.run_bind, eqGuard_else w (x := x) (y := y) (op := op) (t := t) (a := .string _) (b := .string _) rfl (.inr rfl), Result.andThen_ok]
    cases op <;> exact p
  · rename_i n1 n2
    have main : ∀ r, aEq C t (isConstO x || isConstO y) a b = some r → (op = .eql ∨ op = .neq) →
        (do eqGuard op t x y A B; binOp op t A B : Sem Value).run C.P w = .ok (.bool (negIf op r)) w := by
      intro r hr hop
      obtain ⟨g, q⟩ := eq_sim (w := w) hC op hr ha hb
      simp only [Sem.run_bind, g, Result.andThen_ok]
      refine binElse hop ?_ ?_ ?_ ?_ q
      · rintro ⟨k, i, k', j, rfl, rfl⟩
        cases ha with
        | plain _ _ => cases hb with | plain _ _ => exact n1 _ _ _ _ rfl rfl
      · rintro ⟨s, u, rfl, rfl⟩
        cases ha with
        | plain _ _ => cases hb with | plain _ _ => exact n2 _ _ rfl rfl
      · rintro k i rfl
        cases ha with | plain _ _ => simp [aEq] at hr
      · rintro k i j rfl
        cases ha with | plain _ hp => simp [cellPlain] at hp
    unfold aBinElse at h
    split at h
    · obtain ⟨r, hr, h1⟩ := obind_eq h
      simp [boolV] at h1; subst h1
      exact ⟨main r hr (.inl rfl), rfl⟩
    · obtain ⟨r, hr, h1⟩ := obind_eq h
      simp [notV] at h1; subst h1
      exact ⟨main r hr (.inr rfl), rfl⟩
    · simp at h
omit hC in
theorem un_sim {P : Program} {op : UnOp} {a A v : Value} (h : aUn P op a = some v) (ha : VRel μ a A) : (Op.unary op A).run P w = .ok v w ∧ cellPlain v = true := by
  unfold aUn at h
  split at h
  · obtain rfl := ha.bool_inv; simp at h; subst h; exact ⟨rfl, rfl⟩
  · obtain rfl := ha.int_inv; simp at h; subst h; exact ⟨by simp [Op.unary, Op.intArith, mkInt], rfl⟩
  · obtain rfl := ha.int_inv; exact pureInt_run h w
  · simp at h
end
end Go.Am
