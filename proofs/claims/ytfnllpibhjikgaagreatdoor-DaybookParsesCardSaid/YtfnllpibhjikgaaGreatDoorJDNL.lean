/- Hours that are noted: the loop over a map's keys, in whatever order they come. -/
import Derived.Test.YtfnllpibhjikgaaGreatDoorJK1
set_option linter.unusedSimpArgs false
set_option linter.unusedVariables false
namespace Go.Am.NB
open Go Go.Proofs
theorem F377_DNL : type_of% (And.intro @fp_135_0 <| And.intro @fp_135_4 <| And.intro @fp_135_6 <| And.intro @fp_154_0 <| And.intro @fp_154_1 <| And.intro @fp_170_0 <| And.intro @fp_175_2 <| And.intro @fp_44_0 <| And.intro @fp_44_1 <| And.intro @fp_57_2 <| And.intro @fp_66_1 <| And.intro @fp_68_3 <| And.intro @fp_68_6 <| And.intro @ix_23 <| And.intro @ix_55 <| And.intro @ix_63 <| And.intro @ld_133 <| And.intro @ld_23 <| And.intro @ld_3 <| And.intro @ld_44 <| And.intro @ld_55 <| And.intro @ld_63 <| And.intro @len_23 <| And.intro @part_170 <| And.intro @part_175 <| And.intro @part_3 <| And.intro @size_170 <| And.intro @size_175 <| And.intro @size_23 <| And.intro @size_3 <| And.intro @size_44 <| And.intro @size_55 <| And.intro @size_63 <| And.intro @und_23 <| And.intro @und_55 <| And.intro @und_63 <| And.intro @zero_23 <| And.intro @zero_44 <| And.intro @zero_55 @zero_63) := And.intro @fp_135_0 <| And.intro @fp_135_4 <| And.intro @fp_135_6 <| And.intro @fp_154_0 <| And.intro @fp_154_1 <| And.intro @fp_170_0 <| And.intro @fp_175_2 <| And.intro @fp_44_0 <| And.intro @fp_44_1 <| And.intro @fp_57_2 <| And.intro @fp_66_1 <| And.intro @fp_68_3 <| And.intro @fp_68_6 <| And.intro @ix_23 <| And.intro @ix_55 <| And.intro @ix_63 <| And.intro @ld_133 <| And.intro @ld_23 <| And.intro @ld_3 <| And.intro @ld_44 <| And.intro @ld_55 <| And.intro @ld_63 <| And.intro @len_23 <| And.intro @part_170 <| And.intro @part_175 <| And.intro @part_3 <| And.intro @size_170 <| And.intro @size_175 <| And.intro @size_23 <| And.intro @size_3 <| And.intro @size_44 <| And.intro @size_55 <| And.intro @size_63 <| And.intro @und_23 <| And.intro @und_55 <| And.intro @und_63 <| And.intro @zero_23 <| And.intro @zero_44 <| And.intro @zero_55 @zero_63

theorem wanted_free {μ : Mu} {τ : List (List Value)} {t : Array Value} (hT : TRel μ τ t) (ops : Array Oper) (o : Oper) (hg : o.guard = none) : Region.wanted o (yielded ops t) = true := by
  rw [← wanted_eq hT]; unfold wantedA; rw [hg]

/-- a heap in which nothing may be written stands for every later world -/
theorem HRel.rebase {good good' : Code → Prop} {wb w w' : World} {μ : Mu} {h : Heap} (H : HRel good wb μ h w) (hno : ∀ i o, h.get i = some o → (∃ c s, o = .row c s false) ∨ o = .dead) (hk : Keeps w w') : HRel good' w' μ h w' := by
  refine ⟨rfl, rfl, Nat.le_refl _, fun _ _ => rfl, H.dom, H.pos, ?_, ?_⟩
  · intro i e o hi ho
    rcases hno i o ho with ⟨c, s, rfl⟩ | rfl
    · obtain ⟨C, el, fz, q1, q2⟩ := H.obj i e _ hi ho
      have hlt := (Array.getElem?_eq_some_iff.1 q1).1
      exact ⟨C, el, fz, (hk.2.2.2 _ hlt).trans q1, q2.1, q2.2.1, q2.2.2.1, q2.2.2.2.1, fun h => by simp at h⟩
    · trivial
  · intro i j e f o p _ _ _ ho _ hown
    rcases hno i o ho with ⟨c, s, rfl⟩ | rfl <;> simp [AObj.own] at hown

section
variable {μ : Mu} {h : Heap} {fr : Frame} {t : Array Value} {cs : List Frame} {w wb : World} {n : Nat} {f : Nat → Value}

/-- an operation that only reads -/
theorem op_step (hOk : CB.Ok drawOK wb) (S : St CB drawOK wb μ ⟨T n f, [], none⟩ h none fr t [] cs w) {ops : Array Oper} {i : Nat} {rest : List Nat} {k : List Item} {o : Oper} (ho : ops[i]? = some o) (hgd : o.guard = none) (hgo : goodOp CB o = true) {v : Value} (he : earlyVal CB (ev (T n f)) h o.op = some (.val v)) {d : Nat} (hd : o.dst = some d) :
    ∃ t1 w1, Quiet w w1 ∧ St CB drawOK wb μ ⟨T n (upd f d v), [], none⟩ h none fr t1 [] cs w1 ∧ Steps Tryz.prog (lone (frm fr t [] (.inRegion ops (i :: rest) :: k)) cs w) (lone (frm fr t1 [] (.inRegion ops rest :: k)) cs w1) := by
  have hρ : ∀ x ∈ o.op.operands.toList, VRel μ (ev (T n f) x) ((frm fr t [] (.inRegion ops (i :: rest) :: k)).eval x) := fun x hx => ev_rel S.G S.T (List.all_eq_true.1 hgo x hx)
  have hde : ∀ c, o.op ≠ .defer c := by intro c e'; rw [e'] at he; simp [earlyVal] at he
  have hE := early_sim hOk.ok0 S.H hρ he
  obtain ⟨V, w', hrun, hq, hv⟩ := hE
  refine ⟨_, w', hq, ⟨S.H.quiet hq, ?_, S.D, S.R, S.N, S.G⟩, .one (st_value (P := CB.P) ho (wanted_free S.T ops o hgd) (.inr hde) hrun)⟩
  rw [hd, ← tset_T]
  exact S.T.set d hv
end

def ops5 : Array Oper := #[⟨some 50, .next (.tmp 49) false, 0, "daybook.go:373", #[], none⟩, ⟨some 51, .extract (.tmp 50) 0, 4, "daybook.go:373", #[⟨0, .data⟩], none⟩]
def ops6 : Array Oper := #[⟨some 52, .entry (.tmp 49), 0, "daybook.go:373", #[], none⟩, ⟨some 53, .extract (.tmp 52) 0, 3, "daybook.go:373", #[⟨0, .data⟩], none⟩, ⟨some 5, .assign (.tmp 53), 3, "daybook.go:373", #[⟨1, .data⟩, ⟨0, .phase⟩, ⟨1, .phase⟩], none⟩]
noncomputable def loopC : Code := match tlC (tlC (tlC (tlC (tlC Tryz.f377.body.get!)))) with
  | .block _ (.loop b) => b
  | c => c

section
variable {w3 : World} {μ : Mu} {hf : Heap} (H3 : HRel (goodP CB drawOK) w3 μ hf w3) (hno : ∀ i o, hf.get i = some o → (∃ c s, o = .row c s false) ∨ o = .dead)
include H3 hno
theorem it_rel {w' : World} (hkp : Keeps w3 w') {rb : Nat} (hrb : w3.heap.size ≤ rb) : HRel (goodP CB drawOK) w' (μ.upd hf.next ⟨rb, 0, 0, 0⟩) (hf.alloc .dead) w' := by
  have H := HRel.rebase (good' := goodP CB drawOK) H3 hno hkp
  have hfn := H.fresh
  refine (H.allocA .dead).adopt ⟨rb, 0, 0, 0⟩ hfn (by have := H.pos; omega) (by simp) (Heap.get_alloc_self _ _) ?_ trivial
  intro j f p hj hp hl
  have hne : j ≠ hf.next := fun e => by rw [e, hfn] at hj; simp at hj
  rw [Heap.get_alloc_ne _ _ hne] at hp
  obtain ⟨X, hX⟩ := (H3.obj j f p hj hp).some hl
  have := (Array.getElem?_eq_some_iff.1 hX).1
  show f.blk ≠ rb
  omega

variable (hOkA : ∀ w, CB.Ok drawOK w) (hk : HOK hf) (G : GRel CB μ) {fr : Frame} {cs : List Frame} (hR : RdRel μ none fr.roundOf) (hN : PanRel μ fr.kind cs none)
  {ab ao N i : Nat} {asp : Option Nat} {n : Int} {row : List Value} (q1 : rowAt hf ab = some row) (q2 : rowAt hf N = some [.int .i64 (i : Int), .int .i64 n]) {vs : Value} (hvs : row[ao + 17]? = some vs)
  {rb mb c : Nat} (hrb : w3.heap.size ≤ rb) (hmb : mb < w3.heap.size) {ES : Array MapEntry} (hES : w3.heap[mb]? = some (.map ES c)) (hst : ∀ x ∈ ES.toList, x.born < c) (hnd : (ES.toList.map (·.born)).Nodup) {zf : MapEntry → Int}
  (hkeys : ∀ x ∈ ES.toList, ∃ (k : Nat) (sb so : Nat) (ssp : Option Nat) (sl sc : Nat) (srow : List Value) (v : Value), x.key = .int .i64 (k : Int) ∧ vs = .slice (some ⟨sb, so, ssp⟩) sl sc ∧ k < sl ∧ rowAt hf sb = some srow ∧ srow[so + k * 5]? = some (.int .i64 (zf x)) ∧ VRel μ v x.val)
  {o' : Option Value} (ho1 : ∀ x ∈ ES.toList, zf x = (i : Int) → o' = some (refusal [115, 116, 114, 111, 107, 101, 115])) (ho0 : (∀ x ∈ ES.toList, zf x ≠ (i : Int)) → o' = none)
include hOkA hk G hR hN q1 q2 hvs hrb hmb hES hst hnd hkeys ho1 ho0

set_option maxRecDepth 10000 in
set_option maxHeartbeats 1000000 in
theorem note_rounds : ∀ (m : Nat) (seen : Array Nat) (c0 : Nat) (f : Nat → Value) (t : Array Value) (w' : World), (leftOf ES seen).size = m → Keeps w3 w' → TRel (μ.upd hf.next ⟨rb, 0, 0, 0⟩) (T 68 f) t →
    f 1 = .pointer (some ⟨ab, ao, asp⟩) → f 2 = .pointer (some ⟨N, 0, none⟩) → f 49 = .pointer (some ⟨hf.next, 0, none⟩) → w'.heap[rb]? = some (.mapIter (some mb) c seen c0) → c ≤ c0 → (∀ x ∈ ES.toList, seen.contains x.born = true → zf x ≠ (i : Int)) →
    WEnd Tryz.prog w3 fr cs (lone (frm fr t [] [.code loopC, .inLoop loopC, .inBlock 0]) cs w') o' := by
  have hle := Mu.le_upd (μ := μ) (i := hf.next) ⟨rb, 0, 0, 0⟩ H3.fresh
  have st : ∀ {f : Nat → Value} {t : Array Value} {w' : World}, Keeps w3 w' → TRel (μ.upd hf.next ⟨rb, 0, 0, 0⟩) (T 68 f) t → St CB drawOK w' (μ.upd hf.next ⟨rb, 0, 0, 0⟩) ⟨T 68 f, [], none⟩ (hf.alloc .dead) none fr t [] cs w' :=
    fun hkp hT => ⟨it_rel H3 hno hkp hrb, hT, trivial, hR.mono hle, hN.mono hle, G.mono hle⟩
  intro m
  induction m using Nat.strongRecOn with
  | _ m ih =>
  intro seen c0 f t w' hm hkp hT g1 g2 g49 hit hc hseen
  have hmap : w'.heap[mb]? = some (.map ES c) := (hkp.2.2.2 mb hmb).trans hES
  have hrb' : rb < w'.heap.size := (Array.getElem?_eq_some_iff.1 hit).1
  simp only [loopC, Tryz.f377, Option.get!, tlC]
  refine WEnd.steps (.one st_seq) ?_
  refine WEnd.steps (.one st_region) ?_
  -- the next entry
  have hv49 : t.getD 49 undef = .pointer (some ⟨rb, 0, none⟩) := by
    have := (hT 49).1
    rw [tget_T, if_pos (by omega), g49] at this
    obtain ⟨A, hA, h1, e, h2, h3, h4⟩ := this.ptr_inv
    rw [hA]
    rw [Mu.upd_self] at h2
    cases h2
    obtain ⟨x, y, z⟩ := A
    simp at h1 h3 h4
    subst h1; subst h3; subst h4; rfl
  rcases run_next_at (P := Tryz.prog) w' 0 rb mb c c0 seen ES c hit hmap hst hc with ⟨h0, hrun⟩ | ⟨e, he, w1, hal, hrun⟩
  · -- nothing is left
    have hT1 : TRel (μ.upd hf.next ⟨rb, 0, 0, 0⟩) (T 68 (upd f 50 (mkTup [.bool false]))) (putT t (some 50) (.tuple #[.bool false])) := by
      rw [← tset_T]
      exact hT.set 50 (.tup' (VRels.plain rfl))
    refine WEnd.steps (.one (st_value (P := Tryz.prog) (v := .tuple #[.bool false]) (w' := w') rfl (wanted_free hT _ _ rfl) (.inr (by intro c h; cases h)) ?_)) ?_
    · simp only [execOp]
      show (Instr.next (t.getD 49 undef) false 0 >>= _ : Sem Next).run Tryz.prog w' = _
      rw [hv49]
      simp [hrun]
    obtain ⟨t2, w2, hq, S2, hs⟩ := op_step (hOkA w') (st hkp hT1) (ops := ops5) (i := 1) (rest := []) rfl rfl rfl (v := .bool false) (by simp only [earlyVal, ev, tget_T]; rfl) rfl
    refine WEnd.steps hs ?_
    refine WEnd.steps (.one st_regionEnd) ?_
    refine WEnd.steps (.one st_seq) ?_
    refine WEnd.steps (.one (st_cond (u := false) ?_)) ?_
    · have := (S2.T 51).1
      rw [tget_T] at this
      exact this.bool_inv
    refine WEnd.steps (.one (st_exit (l := 0) rfl)) ?_
    have ho := ho0 fun x hx => hseen x hx (all_seen ES seen h0 x hx)
    subst ho
    have hq' : Keeps w' w2 := ⟨hq.os, hq.output, by rw [hq.heap]; exact Nat.le_refl _, fun b _ => by rw [hq.heap]⟩
    exact ⟨t2, w2, hkp.trans hq', .refl _ _⟩
  · -- some entry comes
    have hmem := mem_left he
    have hkw1 : w1.heap = w'.heap ∧ w1.os = w'.os ∧ w1.output = w'.output := by rcases hal with rfl | rfl <;> exact ⟨rfl, rfl, rfl⟩
    have hgw : ∀ b, (ChangeMaps.setBlock w1 rb (Obj.mapIter (some mb) c (seen.push e.born) c)).heap[b]? = if b = rb then some (Obj.mapIter (some mb) c (seen.push e.born) c) else w'.heap[b]? := fun b => by
      show (w1.heap.setIfInBounds rb _)[b]? = _
      rw [hkw1.1, Array.getElem?_setIfInBounds]
      by_cases hb : rb = b
      · subst hb; simp [hrb']
      · rw [if_neg hb, if_neg (fun e => hb e.symm)]
    have hkN : Keeps w3 (ChangeMaps.setBlock w1 rb (Obj.mapIter (some mb) c (seen.push e.born) c)) := by
      refine ⟨hkw1.2.1.trans hkp.1, hkw1.2.2.trans hkp.2.1, ?_, fun b hb => ?_⟩
      · show w3.heap.size ≤ (w1.heap.setIfInBounds rb _).size
        rw [Array.size_setIfInBounds, hkw1.1]; exact hkp.2.2.1
      · rw [hgw, if_neg (by omega)]; exact hkp.2.2.2 b hb
    generalize hwN : ChangeMaps.setBlock w1 rb (Obj.mapIter (some mb) c (seen.push e.born) c) = wN at hrun hgw hkN
    have hitN : wN.heap[rb]? = some (.mapIter (some mb) c (seen.push e.born) c) := by rw [hgw, if_pos rfl]
    obtain ⟨k, sb, so, ssp, sl, sc, srow, v, hkey, hvsl, hksl, hsr, hz, hval⟩ := hkeys e hmem.1
    subst hvsl
    have hpair : VRels (μ.upd hf.next ⟨rb, 0, 0, 0⟩) [e.key, v] [e.key, e.val] := .cons (by rw [hkey]; exact .plain _ rfl) (.cons (hval.mono hle) .nil)
    have hT1 : TRel (μ.upd hf.next ⟨rb, 0, 0, 0⟩) (T 68 (upd f 50 (mkTup [.bool true, e.key, v]))) (putT t (some 50) (.tuple #[.bool true, e.key, e.val])) := by
      rw [← tset_T]
      exact hT.set 50 (.tup' (.cons (.plain _ rfl) hpair))
    refine WEnd.steps (.one (st_value (P := Tryz.prog) (v := .tuple #[.bool true, e.key, e.val]) (w' := wN) rfl (wanted_free hT _ _ rfl) (.inr (by intro c h; cases h)) ?_)) ?_
    · simp only [execOp]
      show (Instr.next (t.getD 49 undef) false 0 >>= _ : Sem Next).run Tryz.prog w' = _
      rw [hv49]
      simp [hrun]
    obtain ⟨t2, w2, hq, S2, hs⟩ := op_step (hOkA wN) (st hkN hT1) (ops := ops5) (i := 1) (rest := []) rfl rfl rfl (v := .bool true) (by simp only [ops5, earlyVal, ev, tget_T]; rfl) rfl
    refine WEnd.steps hs ?_
    refine WEnd.steps (.one st_regionEnd) ?_
    refine WEnd.steps (.one st_seq) ?_
    refine WEnd.steps (.one (st_cond (u := true) ?_)) ?_
    · have := (S2.T 51).1
      rw [tget_T] at this
      exact this.bool_inv
    refine WEnd.steps (.one st_skip) ?_
    refine WEnd.steps (.one st_block) ?_
    refine WEnd.steps (.one st_seq) ?_
    refine WEnd.steps (.one st_region) ?_
    -- what entry it is
    have hit2 : w2.heap[rb]? = some (.mapIter (some mb) c (seen.push e.born) c) := by rw [hq.heap]; exact hitN
    have hmap2 : w2.heap[mb]? = some (.map ES c) := by
      rw [hq.heap, hgw, if_neg (by omega)]; exact hmap
    have hent := run_entry_at (P := Tryz.prog) w2 rb mb c seen ES c e hit2 hmap2 hmem.1 hnd
    have hv2 : t2.getD 49 undef = .pointer (some ⟨rb, 0, none⟩) := by
      have := (S2.T 49).1
      rw [tget_T, if_pos (by omega), upd_at, if_neg (by omega), upd_at, if_neg (by omega), g49] at this
      obtain ⟨A, hA, h1, e, h2, h3, h4⟩ := this.ptr_inv
      rw [hA]
      rw [Mu.upd_self] at h2
      cases h2
      obtain ⟨x, y, z⟩ := A
      simp at h1 h3 h4
      subst h1; subst h3; subst h4; rfl
    have hk2 : Keeps w3 w2 := hkN.trans ⟨hq.os, hq.output, by rw [hq.heap]; exact Nat.le_refl _, fun b _ => by rw [hq.heap]⟩
    have hT2 : TRel (μ.upd hf.next ⟨rb, 0, 0, 0⟩) (T 68 (upd (upd (upd f 50 (mkTup [.bool true, e.key, v])) 51 (.bool true)) 52 (mkTup [e.key, v]))) (putT t2 (some 52) (.tuple #[e.key, e.val])) := by
      rw [← tset_T]
      exact S2.T.set 52 (.tup' hpair)
    refine WEnd.steps (.one (st_value (P := Tryz.prog) (v := .tuple #[e.key, e.val]) (w' := w2) rfl (wanted_free S2.T _ _ rfl) (.inr (by intro c h; cases h)) ?_)) ?_
    · simp only [execOp]
      show (Instr.entry (t2.getD 49 undef) >>= _ : Sem Next).run Tryz.prog w2 = _
      rw [hv2]
      simp [hent]
    obtain ⟨t3, w4, hq3, S3, hs3⟩ := op_step (hOkA w2) (st hk2 hT2) (ops := ops6) (i := 1) (rest := [2]) rfl rfl rfl (v := .int .i64 (k : Int)) (by simp only [ops6, earlyVal, ev, tget_T]; rw [hkey]; rfl) rfl
    refine WEnd.steps hs3 ?_
    obtain ⟨t4, w5, hq4, S4, hs4⟩ := op_step (hOkA w2) S3 (ops := ops6) (i := 2) (rest := []) rfl rfl rfl (v := .int .i64 (k : Int)) (by simp only [ops6, earlyVal, ev, tget_T]; rfl) rfl
    refine WEnd.steps hs4 ?_
    refine WEnd.steps (.one st_regionEnd) ?_
    have hk5 : Keeps w2 w5 := S4.H.keeps
    have hit5 : w5.heap[rb]? = some (.mapIter (some mb) c (seen.push e.born) c) := by rw [hq4.heap, hq3.heap]; exact hit2
    have hrb5 := (Array.getElem?_eq_some_iff.1 hit5).1
    have S5 := st (hk2.trans hk5) S4.T
    have hk0 : HOK (hf.alloc .dead) := hk.alloc _
    have q1' : rowAt (hf.alloc .dead) ab = some row := ((Fr.refl hk).alloc _).row' hk q1
    have q2' : rowAt (hf.alloc .dead) N = some [.int .i64 (i : Int), .int .i64 n] := ((Fr.refl hk).alloc _).row' hk q2
    have hsr' : rowAt (hf.alloc .dead) sb = some srow := ((Fr.refl hk).alloc _).row' hk hsr
    by_cases hbad : zf e = (i : Int)
    · obtain rfl := ho1 e hmem.1 hbad
      have dn : ((zf e) != (i : Int)) = false := by simp [hbad]
      refine WEnd.die (hk2.trans hk5) (hOkA w5) S5 (refusal_plain _) (by kernel_rfl) ?_
      refine W_draw [(true, 0), (true, 1), (true, 2), (true, 3), (true, 4), (true, 5), (true, 6), (true, 7), (true, 8), (true, 9), (true, 10), (true, 11), (true, 12), (true, 13)] (by kernel_rfl) ?_
      simp (maxDischargeDepth := 30) only [AMS, AMH, ↓reduceIte, Nat.reduceLT, Nat.reduceEqDiff, Nat.reduceAdd, Nat.reduceMul, reduceCtorEq, decide_true, decide_false, Nat.reduceLeDiff, Int.reduceNe, Int.reduceEq, ne_eq, not_false_eq_true, and_self, AMR, F377_DNL, hk0, g1, g2, upd_at, q1', q2', hvs, hksl, hsr', hz, dn, Nat.add_zero]
      refine W_callPX (must_no _ _) (fun v h' q => q.elim) ?_
      rintro v h' ⟨rfl, rfl⟩
      exact ⟨rfl, rfl⟩
    · have dn : ((zf e) != (i : Int)) = true := by simp [hbad]
      refine WEnd.go (hk2.trans hk5) (hOkA w5) S5 (R := fun f' => f' 1 = .pointer (some ⟨ab, ao, asp⟩) ∧ f' 2 = .pointer (some ⟨N, 0, none⟩) ∧ f' 49 = .pointer (some ⟨hf.next, 0, none⟩)) (hf.alloc .dead) (by kernel_rfl) ?_ ?_
      · refine W_draw [(true, 0), (true, 1), (true, 2), (true, 3), (true, 4), (true, 5), (true, 6), (true, 7), (true, 8), (true, 9), (true, 10), (true, 11), (true, 12), (true, 13)] (by kernel_rfl) ?_
        simp (maxDischargeDepth := 30) only [AMS, AMH, ↓reduceIte, Nat.reduceLT, Nat.reduceEqDiff, Nat.reduceAdd, Nat.reduceMul, reduceCtorEq, decide_true, decide_false, Nat.reduceLeDiff, Int.reduceNe, Int.reduceEq, ne_eq, not_false_eq_true, and_self, AMR, F377_DNL, hk0, g1, g2, upd_at, q1', q2', hvs, hksl, hsr', hz, dn, Nat.add_zero]
        refine W_callP (must_w _ _) ?_
        rintro v h' rfl
        simp (maxDischargeDepth := 30) only [AMS, AMH, ↓reduceIte, Nat.reduceLT, Nat.reduceEqDiff, Nat.reduceAdd, Nat.reduceMul, reduceCtorEq, decide_true, decide_false, Nat.reduceLeDiff, Int.reduceNe, Int.reduceEq, ne_eq, not_false_eq_true, and_self, AMR, F377_DNL, hk0]
        refine ⟨trivial, trivial, _, rfl, by simp [upd_at, g1], by simp [upd_at, g2], by simp [upd_at, g49]⟩
      rintro f7 ⟨g1', g2', g49'⟩ μ7 w7 t7 le7 fr7 S7
      have hμ7 : μ7 = μ.upd hf.next ⟨rb, 0, 0, 0⟩ := by
        funext j
        cases h4 : (μ.upd hf.next ⟨rb, 0, 0, 0⟩) j with
        | some x => exact le7 j x h4
        | none =>
          cases h7 : μ7 j with
          | none => rfl
          | some x =>
            rcases fr7 j x h7 with q | q
            · rw [h4] at q; simp at q
            · have := (S7.H.dom j x h7).1; omega
      have hT7 := S7.T
      rw [hμ7] at hT7
      have hk7 : Keeps w5 w7 := S7.H.keeps
      refine WEnd.steps (.one st_inBlock) ?_
      refine WEnd.steps (.one st_inLoop) ?_
      refine ih (leftOf ES (seen.push e.born)).size (by rw [← hm]; exact left_shrinks ES seen e he) (seen.push e.born) c f7 t7 w7 rfl ((hk2.trans hk5).trans hk7) hT7 g1' g2' g49' ((hk7.2.2.2 rb hrb5).trans hit5) (Nat.le_refl _) ?_
      intro x hx hcx
      rw [contains_push] at hcx
      rcases (Bool.or_eq_true _ _).mp hcx with q | q
      · exact hseen x hx q
      · have hb : x.born = e.born := by simpa using q
        obtain rfl := born_inj hnd hx hmem.1 hb
        exact hbad
end

def ops4 : Array Oper := #[⟨some 45, .move (.tmp 1), 95, "daybook.go:373", #[], none⟩, ⟨some 46, .nilCheck (.tmp 45), 0, "daybook.go:373", #[⟨0, .data⟩], none⟩, ⟨some 47, .fieldAddr 135 (.tmp 46) 4, 0, "daybook.go:373", #[⟨1, .data⟩], none⟩, ⟨some 48, .load 133 (.tmp 47), 133, "daybook.go:373", #[⟨2, .data⟩], none⟩, ⟨some 49, .range 133 (.tmp 48), 0, "daybook.go:373", #[⟨3, .data⟩], none⟩]

set_option maxRecDepth 10000 in
set_option maxHeartbeats 1000000 in
theorem note_start {w w4 : World} {μ : Mu} {h3 : Heap} (hOkA : ∀ w, CB.Ok drawOK w) {f : Nat → Value} {fr : Frame} {t4 : Array Value} {cs : List Frame} (S4 : St CB drawOK w μ ⟨T 68 f, [], none⟩ h3 none fr t4 [] cs w4)
    {ab ao N i : Nat} {asp : Option Nat} {n : Int} {row : List Value} (g1 : f 1 = .pointer (some ⟨ab, ao, asp⟩)) (g2 : f 2 = .pointer (some ⟨N, 0, none⟩)) (q1 : rowAt h3 ab = some row) (q2 : rowAt h3 N = some [.int .i64 (i : Int), .int .i64 n]) {vs : Value} (hvs : row[ao + 17]? = some vs)
    {mr : Nat} (hvm : row[ao + 38]? = some (.map (some mr))) {em : Spot} (hem : μ mr = some em) {c : Nat} {ES : Array MapEntry} (hES : w.heap[em.blk]? = some (.map ES c)) (hst : ∀ x ∈ ES.toList, x.born < c) (hnd : (ES.toList.map (·.born)).Nodup) {zf : MapEntry → Int}
    (hkeys : ∀ x ∈ ES.toList, ∃ (k : Nat) (sb so : Nat) (ssp : Option Nat) (sl sc : Nat) (srow : List Value) (v : Value), x.key = .int .i64 (k : Int) ∧ vs = .slice (some ⟨sb, so, ssp⟩) sl sc ∧ k < sl ∧ rowAt h3 sb = some srow ∧ srow[so + k * 5]? = some (.int .i64 (zf x)) ∧ VRel μ v x.val)
    {o' : Option Value} (ho1 : ∀ x ∈ ES.toList, zf x = (i : Int) → o' = some (refusal [115, 116, 114, 111, 107, 101, 115])) (ho0 : (∀ x ∈ ES.toList, zf x ≠ (i : Int)) → o' = none) :
    WEnd Tryz.prog w fr cs (lone (frm fr t4 [] [.code (tlC (tlC (tlC (tlC Tryz.f377.body.get!))))]) cs w4) o' := by
  obtain ⟨hf, Hf, hkf, hgf⟩ := freeze (good' := goodP CB drawOK) S4.H
  have hno : ∀ i o, hf.get i = some o → (∃ c s, o = .row c s false) ∨ o = .dead := fun i o ho => by
    rw [hgf] at ho
    cases hg : h3.get i with
    | none => rw [hg] at ho; simp at ho
    | some x =>
      rw [hg] at ho; simp at ho; subst ho
      cases x <;> first | exact .inl ⟨_, _, rfl⟩ | exact .inr rfl
  have rF : ∀ i l, rowAt h3 i = some l → rowAt hf i = some l := fun i l hi => by
    unfold rowAt at hi ⊢
    rw [hgf]
    cases hg : h3.get i with
    | none => rw [hg] at hi; simp at hi
    | some x => rw [hg] at hi; cases x <;> first | exact hi | (simp [rowOf] at hi)
  have hk4 : Keeps w w4 := S4.H.keeps
  refine WEnd.base hk4 ?_
  simp only [Tryz.f377, Option.get!, tlC]
  refine WEnd.steps (.one st_seq) ?_
  refine WEnd.steps (.one st_region) ?_
  obtain ⟨t5, w5, hq5, S5, hs5⟩ := op_step (hOkA w4) ⟨Hf, S4.T, S4.D, S4.R, S4.N, S4.G⟩ (ops := ops4) (i := 0) (rest := [1, 2, 3, 4]) rfl rfl rfl (v := .pointer (some ⟨ab, ao, asp⟩)) (by show asVal (tget (T 68 f) 1) = _; rw [tget_T, if_pos (by omega), g1]; rfl) rfl
  refine WEnd.steps hs5 ?_
  obtain ⟨t6, w6, hq6, S6, hs6⟩ := op_step (hOkA w4) S5 (ops := ops4) (i := 1) (rest := [2, 3, 4]) rfl rfl rfl (v := .pointer (some ⟨ab, ao, asp⟩)) (by simp only [ops4, earlyVal, ev, tget_T]; rfl) rfl
  refine WEnd.steps hs6 ?_
  obtain ⟨t7, w7, hq7, S7, hs7⟩ := op_step (hOkA w4) S6 (ops := ops4) (i := 2) (rest := [3, 4]) rfl rfl rfl (v := .pointer (some ⟨ab, ao + 38, none⟩)) (by show aFieldAddr CB 135 (tget (T 68 _) 46) 4 = _; rw [tget_T, if_pos (by omega), upd_at, if_pos rfl, fp_135_4]) rfl
  refine WEnd.steps hs7 ?_
  obtain ⟨t8, w8, hq8, S8, hs8⟩ := op_step (hOkA w4) S7 (ops := ops4) (i := 3) (rest := [4]) rfl rfl rfl (v := .map (some mr)) (by show obind (aLoad CB 133 (tget (T 68 _) 47) hf) asVal = _; rw [tget_T, if_pos (by omega), upd_at, if_pos rfl, ld_133, rF _ _ q1, obind_some, hvm]; rfl) rfl
  refine WEnd.steps hs8 ?_
  have hk8 : Keeps w4 w8 := S8.H.keeps
  have hlt : em.blk < w.heap.size := (Array.getElem?_eq_some_iff.1 hES).1
  have hES8 : w8.heap[em.blk]? = some (.map ES c) := ((hk4.trans hk8).2.2.2 _ hlt).trans hES
  have hv8 : t8.getD 48 undef = .map (some em.blk) := by
    have := (S8.T 48).1
    rw [tget_T, if_pos (by omega), upd_at, if_pos rfl] at this
    obtain ⟨e, hA, h2⟩ := this.map_inv
    rw [hem] at h2; cases h2
    exact hA
  have hrun := run_range_map (P := Tryz.prog) w8 133 3 4 em.blk ES c Tryz.underlying133 hES8
  refine WEnd.steps (.one (st_value (P := Tryz.prog) (v := .pointer (some ⟨w8.heap.size, 0, none⟩)) (w' := w8.alloc (.mapIter (some em.blk) c #[] c)) rfl (wanted_free S8.T _ _ rfl) (.inr (by intro c h; cases h)) ?_)) ?_
  · simp only [execOp]
    show (Instr.range 133 (t8.getD 48 undef) >>= _ : Sem Next).run Tryz.prog w8 = _
    rw [hv8]
    simp [hrun]
  refine WEnd.steps (.one st_regionEnd) ?_
  refine WEnd.steps (.one st_block) ?_
  refine WEnd.steps (.one st_loop) ?_
  have H8 : HRel (goodP CB drawOK) w8 μ hf w8 := HRel.rebase Hf hno hk8
  have hT : TRel (μ.upd hf.next ⟨w8.heap.size, 0, 0, 0⟩) (T 68 (upd (upd (upd (upd (upd f 45 (.pointer (some ⟨ab, ao, asp⟩))) 46 (.pointer (some ⟨ab, ao, asp⟩))) 47 (.pointer (some ⟨ab, ao + 38, none⟩))) 48 (.map (some mr))) 49 (.pointer (some ⟨hf.next, 0, none⟩)))) (putT t8 (some 49) (.pointer (some ⟨w8.heap.size, 0, none⟩))) := by
    rw [← tset_T]
    exact (S8.T.mono (Mu.le_upd _ H8.fresh)).set 49 (.ptr _ _ ⟨rfl, _, Mu.upd_self _ _ _, rfl, rfl⟩)
  have hka : Keeps w8 (w8.alloc (.mapIter (some em.blk) c #[] c)) := ⟨rfl, rfl, by show w8.heap.size ≤ (w8.heap.push _).size; simp, fun b hb => heap_alloc_old w8 _ hb⟩
  refine WEnd.base hk8 ?_
  exact note_rounds (asp := asp) H8 hno hOkA hkf S8.G S8.R S8.N (rF _ _ q1) (rF _ _ q2) hvs (Nat.le_refl _) (Nat.lt_of_lt_of_le hlt (hk4.trans hk8).2.2.1) hES8 hst hnd
    (fun x hx => by obtain ⟨k, sb, so, ssp, sl, sc, srow, v, a1, a2, a3, a4, a5, a6⟩ := hkeys x hx; exact ⟨k, sb, so, ssp, sl, sc, srow, v, a1, a2, a3, rF _ _ a4, a5, a6⟩) ho1 ho0
    _ #[] c _ _ _ rfl hka hT (by simp [upd_at, g1]) (by simp [upd_at, g2]) (by simp [upd_at]) (heap_alloc_new w8 _) (Nat.le_refl _) (fun x _ h => by simp at h)
end Go.Am.NB
