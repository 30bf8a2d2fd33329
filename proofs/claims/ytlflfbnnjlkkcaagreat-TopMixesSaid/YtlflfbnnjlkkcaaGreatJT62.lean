/- Parts T62, T63, T64, T66 of the abstract machine over this program, joined: what each part says stands at its head. -/
import Derived.Test.YtlflfbnnjlkkcaaGreatJT61
import Derived.Test.YtlflfbnnjlkkcaaGreatJT41
import Derived.ProofKit
import Derived.Test.YtlflfbnnjlkkcaaGreatRows
import Derived.LaidMore
import Derived.Shelf.Vars
import Derived.Test.YtlflfbnnjlkkcaaGreatJT98
import Derived.OpenShut
set_option linter.unusedSimpArgs false
set_option linter.unusedVariables false
/- The abstract machine, part 62: arguments that are data, as the machine's start. -/
namespace Go.Am
open Go Go.Proofs Go.ChangeShapes Go.WideShapes Go.RowKit

section
variable {H : Type} {enc : TypeId × Value → H} {w : World} {base : Nat} {spare : Nat → Bool} {held : Bool} {fuel : Nat}

theorem c3 : Tryz.prog.cellsOf 3 = 1 := by kernel_rfl
theorem c25 : Tryz.prog.cellsOf 25 = 2 := by kernel_rfl
theorem c39 : Tryz.prog.cellsOf 39 = 3 := by kernel_rfl
theorem c40 : Tryz.prog.cellsOf 40 = 6 := by kernel_rfl
theorem c41 : Tryz.prog.cellsOf 41 = 1 := by kernel_rfl
theorem c43 : Tryz.prog.cellsOf 43 = 13 := by kernel_rfl
theorem c143 : Tryz.prog.cellsOf 143 = 6 := by kernel_rfl
theorem int_cells {t : TypeId} (hu : Tryz.prog.underlying t = some (.int .i64)) {cs : List Value} {x : DataW H × List MemPlace} (h : DataW.trod enc Tryz.prog w base spare held fuel t cs = some x) : ∃ n : Int, cs = [.int .i64 n] := by
  obtain ⟨m, rfl, _⟩ := DataW.trod_int hu h
  exact ⟨m, rfl⟩
theorem len2 {cs : List Value} (h : cs.length = 2) : ∃ a b, cs = [a, b] := by
  match cs, h with
  | [a, b], _ => exact ⟨a, b, rfl⟩
theorem fieldAt {fs : Array Field} {xs : List (DataW H × List MemPlace)} {n : Nat} {cs : List Value}
    (hf : ∀ (i : Nat) (f : Field), fs[i]? = some f → DataW.trod enc Tryz.prog w base spare held n f.type ((cs.drop f.offset).take (Tryz.prog.cellsOf f.type)) = xs[i]?)
    (i t o c : Nat) (x : DataW H × List MemPlace) (hi : (fs[i]?).map (fun f => (f.type, f.offset)) = some (t, o)) (hc : Tryz.prog.cellsOf t = c) (hx : xs[i]? = some x) :
    DataW.trod enc Tryz.prog w base spare held n t ((cs.drop o).take c) = some x := by
  cases hq : fs[i]? with
  | none => rw [hq] at hi; cases hi
  | some f =>
    rw [hq] at hi
    have := hf i f hq
    simp only [Option.map_some, Option.some.injEq, Prod.mk.injEq] at hi
    rw [hi.1, hi.2, hc, hx] at this
    exact this

/-- a slice that came in, as the world holds it -/
def SliceIn {α : Type} (w : World) (V : Value) (xs : List α) (f : α → List Value) (s : Nat) : Prop :=
  (V = .slice none 0 0 ∧ xs = []) ∨ (∃ a, V = .slice (some a) 0 0 ∧ xs = []) ∨
    ∃ a cap C el fz, V = .slice (some a) xs.length cap ∧ xs.length ≤ cap ∧ a.spot = none ∧ w.heap[a.block]? = some (.cells C el fz) ∧ a.off + xs.length * s ≤ C.size ∧ (C.toList.drop a.off).take (xs.length * s) = xs.flatMap f

theorem slice_in {α : Type} {t e s : Nat} {f : α → List Value} (ht : Tryz.prog.underlying t = some (.slice e)) (hs : Tryz.prog.cellsOf e = s) (s0 : 0 < s) (hf : ∀ x, (f x).length = s)
    (each : ∀ (n : Nat) (cs : List Value) (x : DataW H × List MemPlace), DataW.trod enc Tryz.prog w base (fun _ => true) held n e cs = some x → ∃ y : α, cs = f y) {V : Value} {x : DataW H × List MemPlace}
    (h : DataW.trod enc Tryz.prog w base (fun _ => true) held fuel t [V] = some x) : ∃ xs : List α, SliceIn w V xs f s := by
  rcases DataW.trod_slice ht h with ⟨h0, _⟩ | ⟨a, len, cap, elems, rest, n, _, h0, _, hb, hl, hm, hlen, hel, hsp, _⟩
  · simp at h0
    exact ⟨[], .inl ⟨h0, rfl⟩⟩
  · simp at h0
    subst h0
    obtain ⟨hrl, hr⟩ := hsp rfl
    -- every element up to the capacity
    have all : ∀ i, i < cap → ∃ y : α, w.cells? base (a.add (i * s)) s = some (f y) := by
      intro i hi
      have : ∃ z, (w.cells? base (a.add (i * s)) s).bind (DataW.trod enc Tryz.prog w base (fun _ => true) held n e) = some z := by
        by_cases hil : i < len
        · have := hel i hil
          rw [hs] at this
          exact ⟨elems[i]'(by omega), by rw [this]; exact List.getElem?_eq_getElem (by omega)⟩
        · have := hr (i - len) (by omega)
          rw [hs, show len + (i - len) = i by omega] at this
          exact ⟨rest[i - len]'(by omega), by rw [this]; exact List.getElem?_eq_getElem (by omega)⟩
      obtain ⟨z, hz⟩ := this
      rw [Option.bind_eq_some_iff] at hz
      obtain ⟨cs, h1, h2⟩ := hz
      obtain ⟨y, rfl⟩ := each _ _ _ h2
      exact ⟨y, h1⟩
    by_cases hc : cap = 0
    · subst hc
      have : len = 0 := by omega
      subst this
      exact ⟨[], .inr (.inl ⟨a, rfl, rfl⟩)⟩
    obtain ⟨y0, hy0⟩ := all 0 (by omega)
    have hcell0 := (World.cells?_some hy0).2.2 0 s0
    have hspot : a.spot = none ∧ ∃ C el fz, w.heap[a.block]? = some (.cells C el fz) := by
      have e0 : (a.add (0 * s)).add 0 = a := by simp [Addr.add]
      rw [e0] at hcell0
      have : ∃ v, w.cell? a = some v := ⟨(f y0)[0]'(by rw [hf]; exact s0), by rw [hcell0]; exact List.getElem?_eq_getElem _⟩
      obtain ⟨v, hv⟩ := this
      unfold World.cell? at hv
      split at hv
      · rename_i C el fz hblk
        split at hv
        · simp at hv
        · rename_i hsp'
          refine ⟨by cases hq : a.spot with | none => rfl | some q => rw [hq] at hsp'; simp at hsp', C, el, fz, hblk⟩
      · simp at hv
    obtain ⟨hspot, C, el, fz, hblk⟩ := hspot
    have cellAt : ∀ j, w.cell? (a.add j) = C[a.off + j]? := by
      intro j
      have : a.add j = ⟨a.block, a.off + j, none⟩ := addr_add hspot j
      rw [this]
      unfold World.cell?
      simp [hblk]
    have rowAt' : ∀ i, i < cap → ∃ y : α, ∀ j, j < s → C[a.off + (i * s + j)]? = (f y)[j]? := by
      intro i hi
      obtain ⟨y, hy⟩ := all i hi
      refine ⟨y, fun j hj => ?_⟩
      have := (World.cells?_some hy).2.2 j hj
      rw [← this, ← cellAt]
      refine congrArg w.cell? ?_
      rw [addr_add hspot (i * s)]
      by_cases h0 : j = 0
      · subst h0; rw [addr_add hspot]; simp [Addr.add]
      · simp [Addr.add, h0, addr_add hspot, Nat.add_assoc]
    -- the elements up to the length
    have build : ∀ k, k ≤ len → ∃ xs : List α, xs.length = k ∧ a.off + k * s ≤ C.size ∧ (C.toList.drop a.off).take (k * s) = xs.flatMap f := by
      intro k
      induction k with
      | zero =>
        intro _
        refine ⟨[], rfl, ?_, by simp⟩
        obtain ⟨y, hy⟩ := rowAt' 0 (by omega)
        have := hy 0 s0
        rw [List.getElem?_eq_getElem (by rw [hf]; exact s0)] at this
        have := (Array.getElem?_eq_some_iff.1 this).1
        simp at this ⊢
        omega
      | succ k ih =>
        intro hk
        obtain ⟨xs, h1, h2, h3⟩ := ih (by omega)
        obtain ⟨y, hy⟩ := rowAt' k (by omega)
        have hlast := hy (s - 1) (by omega)
        rw [List.getElem?_eq_getElem (by rw [hf]; omega)] at hlast
        have hsz := (Array.getElem?_eq_some_iff.1 hlast).1
        have hsz' : a.off + (k + 1) * s ≤ C.size := by
          have : (k + 1) * s = k * s + s := by rw [Nat.add_mul]; simp
          omega
        refine ⟨xs ++ [y], by simp [h1], hsz', ?_⟩
        have e : (k + 1) * s = k * s + s := by rw [Nat.add_mul]; simp
        rw [e, List.take_add, h3, List.flatMap_append]
        refine congrArg (List.flatMap f xs ++ ·) ?_
        simp only [List.flatMap_cons, List.flatMap_nil, List.append_nil]
        apply List.ext_getElem?
        intro j
        by_cases hj : j < s
        · rw [List.getElem?_take, if_pos hj, List.getElem?_drop, List.getElem?_drop, Array.getElem?_toList, ← Nat.add_assoc, Nat.add_assoc, hy j hj]
        · rw [List.getElem?_take, if_neg hj, List.getElem?_eq_none (by rw [hf]; omega)]
    obtain ⟨xs, h1, h2, h3⟩ := build len (Nat.le_refl _)
    subst h1
    exact ⟨xs, .inr (.inr ⟨a, cap, C, el, fz, rfl, hl, hspot, hblk, h2, h3⟩)⟩
end
end Go.Am

/- The abstract machine, part 63: the heap at the start of a call whose arguments are data. -/
namespace Go.Am
open Go Go.Proofs

/-- a heap that holds nothing but rows of others -/
def Lent (h : Heap) : Prop := ∀ i o, h.get i = some o → o.own = false

structure Start (C : Ctx) (good : Code → Prop) (w : World) (μ : Mu) (h : Heap) : Prop where
  rel : HRel good w μ h w
  glob : GRel C μ
  ok : HOK h
  lent : Lent h

theorem Start.zero {C : Ctx} (hP : C.P = Tryz.prog) (good : Code → Prop) (w : World) : Start C good w muG ⟨10, .nil⟩ where
  rel := HRel_G good w
  glob := GRel_G hP
  ok := fun i _ => by simp [Heap.get, NT.get_nil]
  lent := fun i o h => by simp [Heap.get, NT.get_nil] at h

theorem VRels.plainly {μ : Mu} {l : List Value} (h : l.all cellPlain = true) : VRels μ l l :=
  ⟨rfl, fun i x X a b => by
    rw [a] at b
    simp at b
    subst b
    exact .plain _ (List.all_eq_true.1 h _ (List.mem_of_getElem? a))⟩

theorem flat_plain {α : Type} {f : α → List Value} (hp : ∀ x, (f x).all cellPlain = true) (xs : List α) : (xs.flatMap f).all cellPlain = true := by
  rw [List.all_flatMap]
  exact List.all_eq_true.2 fun x _ => hp x

theorem start_slice {C : Ctx} {good : Code → Prop} {w : World} {μ : Mu} {h : Heap} (S : Start C good w μ h) {α : Type} {V : Value} {xs : List α} {f : α → List Value} {s : Nat}
    (hf : ∀ x, (f x).length = s) (hp : ∀ x, (f x).all cellPlain = true) (q : SliceIn w V xs f s) :
    ∃ μ' h' v, μ.le μ' ∧ Start C good w μ' h' ∧ Fr h h' ∧ VRel μ' v V ∧ LS h' v xs f s := by
  rcases q with ⟨rfl, rfl⟩ | ⟨a, rfl, rfl⟩ | ⟨a, cap, Cs, el, fz, rfl, h1, h2, h3, h4, h5⟩
  · exact ⟨μ, h, _, fun _ _ a => a, S, Fr.refl S.ok, .plain _ rfl, .inl ⟨rfl, _, _, rfl⟩⟩
  · exact ⟨μ, h, .slice (some ⟨0, 0, none⟩) 0 0, fun _ _ a => a, S, Fr.refl S.ok, .slice _ _ _ _ _ (Nat.le_refl _) (Nat.le_refl _) (.inl ⟨rfl, rfl⟩), .inl ⟨rfl, _, _, rfl⟩⟩
  have hlen : (xs.flatMap f).length = xs.length * s := flat_len hf xs
  have hnone : μ h.next = none := by
    cases e : μ h.next with
    | none => rfl
    | some e' => exact absurd (S.rel.dom _ _ e).1 (Nat.lt_irrefl _)
  refine ⟨μ.upd h.next ⟨a.block, a.off, xs.length * s, s⟩, h.alloc (.row (xs.flatMap f) s false), .slice (some ⟨h.next, 0, none⟩) xs.length xs.length, Mu.le_upd _ hnone, ?_, (Fr.refl S.ok).alloc _, ?_, ?_⟩
  · refine ⟨?_, S.glob.mono (Mu.le_upd _ hnone), S.ok.alloc _, ?_⟩
    · refine { S.rel with dom := ?_, pos := ?_, obj := ?_, inj := ?_ }
      · intro i e hi
        by_cases hn : i = h.next
        · subst hn
          exact ⟨by simp, by have := S.rel.pos; omega⟩
        · rw [Mu.upd_ne _ _ hn] at hi
          have := S.rel.dom _ _ hi
          exact ⟨by simp; omega, this.2⟩
      · have := S.rel.pos; simp
      · intro i e o hi ho
        by_cases hn : i = h.next
        · subst hn
          rw [Mu.upd_self] at hi
          rw [Heap.get_alloc_self] at ho
          simp at hi ho
          subst hi; subst ho
          refine ⟨Cs, el, fz, h3, h4, by show (xs.flatMap f).length ≤ xs.length * s; omega, rfl, ?_, fun hx => by simp at hx⟩
          rw [hlen, h5]
          exact VRels.plainly (flat_plain hp xs)
        · rw [Mu.upd_ne _ _ hn] at hi
          rw [Heap.get_alloc_ne _ _ hn] at ho
          exact (S.rel.obj i e o hi ho).mono (Mu.le_upd _ hnone)
      · intro i j e f' o p _ _ _ ho hp' hown
        by_cases hn : i = h.next
        · subst hn
          rw [Heap.get_alloc_self] at ho
          simp at ho
          subst ho
          simp [AObj.own] at hown
        · rw [Heap.get_alloc_ne _ _ hn] at ho
          rw [S.lent i o ho] at hown
          simp at hown
    · intro i o ho
      by_cases hn : i = h.next
      · subst hn
        rw [Heap.get_alloc_self] at ho
        simp at ho
        subst ho
        rfl
      · rw [Heap.get_alloc_ne _ _ hn] at ho
        exact S.lent i o ho
  · refine .slice _ _ _ _ _ h1 h1 (.inr ⟨by have := S.rel.pos; show h.next ≠ 0; omega, _, Mu.upd_self _ _ _, .inl ⟨h2, rfl, rfl, fun s' hs => by simp at hs⟩⟩)
  · exact LS.of_row hf (by unfold rowAt; rw [Heap.get_alloc_self]; rfl)

theorem ints_plain (n : Int) : (ints n).all cellPlain = true := rfl
end Go.Am

/- The abstract machine, part 64: from a run of the machine to what a row asks: the law returns true, and nothing that was there has changed. -/
namespace Go.Am
open Go Go.Proofs Go.ChangeShapes Go.WideShapes Go.RowKit Go.Proofs.YtlflfbnnjlkkcaaGreat

/-- what came of a call that only looked -/
def Looked (w : World) (e : Ending) (w' : World) : Prop :=
  e = .returned (.bool true) ∧ w'.os = w.os ∧ w'.output = w.output ∧ w.heap.size ≤ w'.heap.size ∧ ∀ b, b < w.heap.size → w'.heap[b]? = w.heap[b]?

theorem looked_of {f : FuncId} {args : List Value} {h : Heap} {ARGS : Array Value} {w : World} {μ : Mu} (S : Start CC (goodP CC drawOK) w μ h) (hA : VRels μ args ARGS.toList)
    (c : CW CC f args h fun r h' => r = .bool true ∧ Fr h h') : Calls Tryz.prog f ARGS w (Looked w) := by
  obtain ⟨r, h', hc, rfl, _⟩ := c
  obtain ⟨n, hn⟩ := callF_near hc
  have hOk := CC_ok w
  refine (callF_sim hOk (run_ok hOk n) hn hA S.rel S.glob).2.mono ?_
  intro e w' hp
  cases e with
  | returned V =>
    obtain ⟨μ', _, _, _, H, hv⟩ := hp
    rw [hv.bool_inv]
    exact ⟨rfl, H.os, H.output, H.size, H.old⟩
  | panicked c => exact hp.elim
  | _ => exact hp.elim

theorem sameAt_old {w w' : World} (h : ∀ b, b < w.heap.size → w'.heap[b]? = w.heap[b]?) {p : MemPlace} (hp : p.block < w.heap.size) : w.sameAt w' p := by
  cases p with
  | cell b o => exact World.cell?_of_block (w := w) (h b hp)
  | map b => exact h b hp

theorem keptBut_old {w w' : World} (os : w'.os = w.os) (out : w'.output = w.output) (h : ∀ b, b < w.heap.size → w'.heap[b]? = w.heap[b]?) (may : MemPlace → Prop) : w.keptBut w' may := by
  refine ⟨os, out, fun i hi => ?_⟩
  rw [h i hi]
  exact (World.keptBut_refl w may).2.2 i hi

theorem Tryz_laidOut : laidOutB Tryz.prog = true := by kernel_rfl
theorem Tryz_own : ownKnob Tryz.prog.godebug = none := by kernel_rfl

section
variable {H : Type} {enc : TypeId × Value → H}

/-- the arguments read behind the call as before -/
theorem trodAll_old {w w' : World} (h : ∀ b, b < w.heap.size → w'.heap[b]? = w.heap[b]?) {ts : List TypeId} : ∀ {vs : List Value} {ds : List (DataW H)} {ps : List MemPlace},
    (∀ t ∈ ts, Tryz.prog.readableRec t = true ∧ t < Tryz.prog.types.size) → (∀ x ∈ ps, x.block < w.heap.size) → DataW.TrodAll enc Tryz.prog w 0 (fun _ => true) true ts vs ds ps →
    DataW.TrodAll enc Tryz.prog w' 0 (fun b => decide (b < w.heap.size)) true ts vs ds ps := by
  induction ts with
  | nil =>
    intro vs ds ps _ _ ht
    obtain ⟨rfl, rfl, rfl⟩ := trodAll_nil ht
    exact rfl
  | cons t ts ih =>
    intro vs ds ps ha hp ht
    obtain ⟨v, vs1, d, ds1, a, b, rfl, rfl, rfl, h1, h2⟩ := trodAll_cons ht
    have r := ha t (List.mem_cons_self ..)
    have ea : ∀ x ∈ a, x.block < w.heap.size := fun x hx => hp x (List.mem_append.2 (.inl hx))
    have eb : ∀ x ∈ b, x.block < w.heap.size := fun x hx => hp x (List.mem_append.2 (.inr hx))
    exact ⟨a, b, WideElems.Trod_stays Tryz_laidOut r.1 r.2 h1 (fun x hx => sameAt_old h (ea x hx)) (fun x hx => decide_eq_true (ea x hx)), ih (fun t ht => ha t (List.mem_cons_of_mem _ ht)) eb h2, rfl⟩

theorem types_ok {ts : List TypeId} (h : ts.all (fun t => Tryz.prog.readableRec t && decide (t < Tryz.prog.types.size)) = true) : ∀ t ∈ ts, Tryz.prog.readableRec t = true ∧ t < Tryz.prog.types.size := by
  intro t ht
  have := List.all_eq_true.1 h t ht
  rw [Bool.and_eq_true] at this
  exact ⟨this.1, of_decide_eq_true this.2⟩

/-- what a law of this part leaves -/
theorem post_looked {fn : Func} {s : ChangeSpec} {W W' : World} {args : Array Value} {e : Ending} {ds gs : List (DataW H)} {before : List MemPlace}
    (hW : DataW.Whole enc Tryz.prog fn.params.toList s.vars false W args.toList ds gs before) (hv : s.vars = []) (hr : fn.resultTypes = #[4])
    (hp : fn.params.toList.all (fun t => Tryz.prog.readableRec t && decide (t < Tryz.prog.types.size)) = true)
    (hs : s.fn H ds = { results := [.lit (.bool true)], args := ds }) (hl : Looked W e W') : ∃ v, e = .returned v ∧ s.post enc Tryz.prog fn false true false false W args v W' := by
  obtain ⟨rfl, os, out, size, old⟩ := hl
  have hlt := hW.lt
  have hW' := hW
  obtain ⟨p, q, hA, hV, rfl, hfz, hnd⟩ := hW
  rw [hv] at hV
  obtain ⟨rfl, rfl⟩ := trodVars_none hV
  refine ⟨_, rfl, ds, [], p ++ [], [], p, [], hW', ?_, ?_, ?_, ?_, fun x => by cases x⟩
  · rw [List.append_nil, hs, hr]
    exact trodAll_mk1 (shut_bool Tryz.underlying4 true)
  · rw [List.append_nil, hs]
    exact trodAll_old old (types_ok hp) (fun x hx => hlt x (by simpa using hx)) hA
  · rw [List.append_nil, hs, hv]
    exact rfl
  · exact keptBut_old os out old _
end

section
variable {H : Type} {enc : TypeId × Value → H}

set_option maxRecDepth 100000 in
theorem returns_plain {os : Os} {f : FuncId} {fn : Func} {s : ChangeSpec}
    (started : os.Started) (noInit : Tryz.prog.inits.idxOf? f = none) (hfn : Tryz.prog.funcs[f]? = some fn)
    (witness : ∃ (w : World) (tape : Tape) (i : Input), w.os = os ∧ (w.forCall tape i).Shaped Tryz.prog ∧ i.vars = [] ∧ Input.okWide Tryz.prog (w.forCall tape i) .any w.heap.size f i ∧
      ((s.pre enc Tryz.prog fn [] false (w.forCall tape i).memory i.args ∧ True) ∧ sizedMet enc Tryz.prog fn (OpenSpec.ofChange s) false (w.forCall tape i).memory i.args) ∧ ({} : Assume).holds Tryz.prog (lone (Frame.enter Tryz.prog f i.args .normal) [] (w.forCall tape i)))
    (hv : s.vars = []) (hr : fn.resultTypes = #[4])
    (hp : fn.params.toList.all (fun t => Tryz.prog.readableRec t && decide (t < Tryz.prog.types.size)) = true)
    (hs : ∀ ds : List (DataW H), ds.length = fn.params.toList.length → s.fn H ds = { results := [.lit (.bool true)], args := ds })
    (contract : ∀ (W : World) (base : Nat) (args : Array Value) (ds : List (DataW H)) (ps : List MemPlace),
      (∀ (j : Nat) t v, fn.params[j]? = some t → args[j]? = some v → Value.okWide Tryz.prog W .any base t v) →
      DataW.TrodAll enc Tryz.prog W 0 (fun _ => true) true fn.params.toList args.toList ds ps → ds.length = fn.params.toList.length ∧ Calls Tryz.prog f args W (Looked W)) :
    ReturnsInHanded {} Tryz.checked os f .any (fun w args => s.pre enc Tryz.prog fn [] false w args ∧ sizedMet enc Tryz.prog fn (OpenSpec.ofChange s) false w args)
      (s.post enc Tryz.prog fn false true false false) := by
  refine returnsInHanded_of_calls (C := Tryz.checked) Tryz_own started noInit (by
    obtain ⟨w, t, i, h1, h2, h3, h4, h5, h6⟩ := witness
    exact ⟨w, t, i, h1, h2, h3, h4, ⟨h5.1.1, h5.2⟩, h6⟩) ?_
  intro w tape i _ hsh _ hok hpre _
  obtain ⟨_, _, _, fn', hfn', _, _, _, _, hval0⟩ := hok
  have e : fn' = fn := Option.some.inj (hfn'.symm.trans hfn)
  subst e
  obtain ⟨⟨ds, gs, before, hw, hc⟩, hz⟩ := hpre
  have hw' := DataW.Whole.of_heap (w' := w.forCall tape i) (by rfl) hw
  have hwh : DataW.Whole enc Tryz.prog fn'.params.toList s.vars false (w.forCall tape i) i.args.toList ds gs before := hw'
  obtain ⟨p, q, hA, _⟩ := hw'
  have hval : ∀ (j : Nat) t v, fn'.params[j]? = some t → i.args[j]? = some v → Value.okWide Tryz.prog (w.forCall tape i) .any w.heap.size t v := hval0
  have hA' : DataW.TrodAll enc Tryz.prog (w.forCall tape i) 0 (fun _ => true) true fn'.params.toList i.args.toList ds p := hA
  have hc := contract (w.forCall tape i) w.heap.size i.args ds p hval hA'
  obtain ⟨hd, hcalls⟩ := hc
  refine hcalls.mono fun e W' he => ?_
  obtain ⟨v, rfl, hpost⟩ := post_looked hwh hv hr hp (hs ds hd) he
  exact ChangeSpec.post_blind hpost
end
/-- a start for the witness: what the door lays -/
theorem door_shaped (os : Os) (args : Array Value) : ((World.doorLaid Tryz.prog 100 os).forCall (fun _ _ => 0) ⟨#[], args, []⟩).Shaped Tryz.prog := World.shaped_of_RefB (by kernel_rfl) (by kernel_rfl)
end Go.Am

/- The abstract machine, part 66: a sheet of tints, a number and a list come in. -/
namespace Go.Am
open Go Go.Proofs Go.ChangeShapes Go.WideShapes Go.RowKit Go.Proofs.YtlflfbnnjlkkcaaGreat

section
variable {H : Type} {enc : TypeId × Value → H}

set_option maxRecDepth 100000 in
theorem ints_in {w : World} {V : Value} {d : DataW H} {ps : List MemPlace} {base : Nat} (hok : Value.okWide Tryz.prog w .any base 22 V) (h : DataW.Trod enc Tryz.prog w 0 (fun _ => true) true 22 V d ps) :
    ∃ xs : List Int, SliceIn w V xs ints 1 := by
  obtain ⟨a, l, c, rfl⟩ := okWide_slice Tryz.underlying22 hok
  obtain ⟨n, h⟩ := h
  exact slice_in Tryz.underlying22 c3 (by decide) ints_len (fun n cs x h => int_cells Tryz.underlying3 h) h

set_option maxRecDepth 100000 in
theorem span_cells {w : World} {n : Nat} {cs : List Value} {x : DataW H × List MemPlace} (h : DataW.trod enc Tryz.prog w 0 (fun _ => true) true n 25 cs = some x) : ∃ s : Sp, cs = s.cells := by
  obtain ⟨xs, m, rfl, _, hl, hx, hf⟩ := DataW.trod_struct Tryz.underlying25 h
  rw [c25] at hl
  obtain ⟨a, b, rfl⟩ := len2 hl
  have hx2 : xs.length = 2 := hx
  match xs, hx2 with
  | [x0, x1], _ =>
    obtain ⟨p, hp⟩ := int_cells Tryz.underlying3 (fieldAt hf 0 3 0 1 x0 rfl c3 rfl)
    obtain ⟨q, hq⟩ := int_cells Tryz.underlying3 (fieldAt hf 1 3 1 1 x1 rfl c3 rfl)
    simp at hp hq
    exact ⟨⟨p, q⟩, by rw [hp, hq]; rfl⟩
set_option maxRecDepth 100000 in
theorem spans_cells {w : World} {n : Nat} {cs : List Value} {x : DataW H × List MemPlace} (h : DataW.trod enc Tryz.prog w 0 (fun _ => true) true n 40 cs = some x) : ∃ t : Tin, cs = t.cells := by
  obtain ⟨xs, m, rfl, _, hl, hx, hf⟩ := DataW.trod_array Tryz.underlying40 h
  rw [c40] at hl
  match cs, hl, xs, hx with
  | [a, b, c, d, e, f], _, [x0, x1, x2], _ =>
    have h0 := hf 0 (by decide)
    have h1 := hf 1 (by decide)
    have h2 := hf 2 (by decide)
    rw [c25] at h0 h1 h2
    obtain ⟨s0, e0⟩ := span_cells (x := x0) h0
    obtain ⟨s1, e1⟩ := span_cells (x := x1) h1
    obtain ⟨s2, e2⟩ := span_cells (x := x2) h2
    simp [Sp.cells] at e0 e1 e2
    exact ⟨⟨s0, s1, s2⟩, by simp [Tin.cells, e0, e1, e2]⟩
set_option maxRecDepth 100000 in
theorem tin_cells {w : World} {n : Nat} {cs : List Value} {x : DataW H × List MemPlace} (h : DataW.trod enc Tryz.prog w 0 (fun _ => true) true n 143 cs = some x) : ∃ t : Tin, cs = t.cells := by
  obtain ⟨xs, m, rfl, _, hl, hx, hf⟩ := DataW.trod_struct Tryz.underlying143 h
  rw [c143] at hl
  have hx1 : xs.length = 1 := hx
  match xs, hx1 with
  | [x0], _ =>
    have h0 := fieldAt hf 0 40 0 6 x0 rfl c40 rfl
    rw [List.drop_zero, List.take_of_length_le (by omega)] at h0
    exact spans_cells h0

set_option maxRecDepth 100000 in
/-- a sheet of tints comes in -/
theorem sheet_in {w : World} {V : Value} {d : DataW H} {ps : List MemPlace} {base : Nat} (hok : Value.okWide Tryz.prog w .any base 43 V) (h : DataW.Trod enc Tryz.prog w 0 (fun _ => true) true 43 V d ps) :
    ∃ (s : TintS) (A : Value), V = .agg ⟨s.cells A⟩ ∧ SliceIn w A s.tins Tin.cells 6 := by
  obtain ⟨cs, rfl, hsz⟩ := okWide_struct Tryz.underlying43 hok
  rw [c43] at hsz
  obtain ⟨L⟩ := cs
  have hL : L.length = 13 := hsz
  obtain ⟨n, h⟩ := h
  have h' : DataW.trod enc Tryz.prog w 0 (fun _ => true) true n 43 L = some (d, ps) := h
  clear h hsz hok
  obtain ⟨xs, m, rfl, _, hl, hx, hf⟩ := DataW.trod_struct Tryz.underlying43 h'
  clear h' hl
  have hx5 : xs.length = 5 := hx
  match L, hL, xs, hx5 with
  | [a0, a1, a2, a3, a4, a5, a6, a7, a8, a9, a10, a11, a12], _, [x0, x1, x2, x3, x4], _ =>
    have h0 := fieldAt hf 0 39 0 3 x0 rfl c39 rfl
    have h1 := fieldAt hf 1 40 3 6 x1 rfl c40 rfl
    have h2 := fieldAt hf 2 25 9 2 x2 rfl c25 rfl
    have h3 := fieldAt hf 3 3 11 1 x3 rfl c3 rfl
    have h4 := fieldAt hf 4 41 12 1 x4 rfl c41 rfl
    clear hf
    obtain ⟨f, e1⟩ := spans_cells h1
    obtain ⟨y, e2⟩ := span_cells h2
    obtain ⟨o, e3⟩ := int_cells Tryz.underlying3 h3
    obtain ⟨t, ht⟩ := slice_in (V := a12) (f := Tin.cells) Tryz.underlying41 c143 (by decide) Tin.len (fun n cs x h => tin_cells h) h4
    obtain ⟨ys, m', _, _, _, hy, hg⟩ := DataW.trod_array Tryz.underlying39 h0
    match ys, hy with
    | [y0, y1, y2], _ =>
      have g0 := hg 0 (by decide)
      have g1 := hg 1 (by decide)
      have g2 := hg 2 (by decide)
      rw [c3] at g0 g1 g2
      obtain ⟨o1, p1⟩ := int_cells Tryz.underlying3 (x := y0) g0
      obtain ⟨o2, p2⟩ := int_cells Tryz.underlying3 (x := y1) g1
      obtain ⟨o3, p3⟩ := int_cells Tryz.underlying3 (x := y2) g2
      simp [Tin.cells, Sp.cells] at e1 e2 e3 p1 p2 p3
      exact ⟨{ o1 := o1, o2 := o2, o3 := o3, f1 := f.a, f2 := f.b, f3 := f.c, years := y, off := o, tins := t }, a12, by simp [TintS.cells, e1, e2, e3, p1, p2, p3], ht⟩

theorem vrels_self {μ : Mu} {l : List Value} {v V : Value} (hl : l.all cellPlain = true) (hv : VRel μ v V) : VRels μ (l ++ [v]) (l ++ [V]) := by
  induction l with
  | nil => exact .cons hv .nil
  | cons a l ih =>
    simp only [List.all_cons, Bool.and_eq_true] at hl
    exact .cons (.plain _ hl.1) (ih hl.2)
theorem sheet_rel {μ : Mu} {s : TintS} {v V : Value} (h : VRel μ v V) : VRel μ (.agg ⟨s.cells v⟩) (.agg ⟨s.cells V⟩) :=
  have q : VRels μ (s.cells v) (s.cells V) := vrels_self (l := [.int .i64 s.o1, .int .i64 s.o2, .int .i64 s.o3, .int .i64 s.f1.lo, .int .i64 s.f1.hi, .int .i64 s.f2.lo, .int .i64 s.f2.hi, .int .i64 s.f3.lo, .int .i64 s.f3.hi, .int .i64 s.years.lo, .int .i64 s.years.hi, .int .i64 s.off]) rfl h
  .agg _ _ q.1 q.2

set_option maxRecDepth 100000 in
/-- the law of mixes, whatever comes in -/
theorem mixes_looks {W : World} {base : Nat} {args : Array Value} {ds : List (DataW H)} {ps : List MemPlace}
    (hval : ∀ (j : Nat) t v, [43, 3, 22][j]? = some t → args[j]? = some v → Value.okWide Tryz.prog W .any base t v)
    (hA : DataW.TrodAll enc Tryz.prog W 0 (fun _ => true) true [43, 3, 22] args.toList ds ps) : ds.length = 3 ∧ Calls Tryz.prog 4 args W (Looked W) := by
  obtain ⟨args⟩ := args
  obtain ⟨V0, vs1, d0, ds1, _, p1, rfl, rfl, _, h0, hA⟩ := trodAll_cons hA
  obtain ⟨V1, vs2, d1, ds2, _, p2, rfl, rfl, _, h1, hA⟩ := trodAll_cons hA
  obtain ⟨V2, vs3, d2, ds3, _, p3, rfl, rfl, _, h2, hA⟩ := trodAll_cons hA
  obtain ⟨rfl, rfl, _⟩ := trodAll_nil hA
  refine ⟨rfl, ?_⟩
  obtain ⟨s, A, rfl, ha⟩ := sheet_in (hval 0 43 V0 rfl rfl) h0
  obtain ⟨n, rfl⟩ := okWide_int Tryz.underlying3 (hval 1 3 V1 rfl rfl)
  obtain ⟨l, hl⟩ := ints_in (hval 2 22 V2 rfl rfl) h2
  obtain ⟨μ1, k1, x, le1, S1, f1, v1, q1⟩ := start_slice (Start.zero (C := CC) rfl (goodP CC drawOK) W) Tin.len (fun _ => rfl) ha
  obtain ⟨μ2, k2, y, le2, S2, f2, v2, q2⟩ := start_slice S1 ints_len ints_plain hl
  exact looked_of S2 (args := [.agg ⟨s.cells x⟩, .int .i64 n, y]) (.cons (sheet_rel (v1.mono le2)) (.cons (.plain _ rfl) (.cons v2 .nil))) (mixes_law S2.ok S2.rel.pos (q1.fr S1.ok f2) q2)
end
end Go.Am
