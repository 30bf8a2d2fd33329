/- The abstract machine over this program: what stands at a desk: the loop over the entries. -/
import Derived.Test.YtlflfbnnjlkkcaaGreatJT88
set_option linter.unusedSimpArgs false
set_option linter.unusedVariables false
namespace Go.Am
open Go Go.Proofs
theorem F63_T92 : type_of% (And.intro @bs_22 <| And.intro @fld_257_0 <| And.intro @fld_257_1 <| And.intro @fld_257_2 <| And.intro @fld_257_3 <| And.intro @fld_257_4 <| And.intro @fld_257_5 <| And.intro @fld_257_6 <| And.intro @fld_257_7 <| And.intro @fld_257_8 <| And.intro @fld_257_9 <| And.intro @fp_110_1 <| And.intro @fp_257_0 <| And.intro @fp_257_2 <| And.intro @fp_257_4 <| And.intro @fp_257_5 <| And.intro @fp_257_6 <| And.intro @fp_257_8 <| And.intro @fp_257_9 <| And.intro @fp_38_1 <| And.intro @fp_38_2 <| And.intro @fp_47_0 <| And.intro @fp_49_1 <| And.intro @fp_49_3 <| And.intro @fp_49_6 <| And.intro @ix_22 <| And.intro @ld_154 <| And.intro @ld_22 <| And.intro @ld_255 <| And.intro @ld_32 <| And.intro @ld_36 <| And.intro @ld_49 <| And.intro @ld_80 <| And.intro @len_22 <| And.intro @len_36 <| And.intro @part_3 <| And.intro @size_154 <| And.intro @size_22 <| And.intro @size_255 <| And.intro @size_257 <| And.intro @size_3 <| And.intro @size_80 <| And.intro @sp_257_0 <| And.intro @sp_257_1 <| And.intro @sp_257_2 <| And.intro @sp_257_3 <| And.intro @sp_257_4 <| And.intro @sp_257_5 <| And.intro @sp_257_6 <| And.intro @sp_257_7 <| And.intro @sp_257_8 <| And.intro @sp_257_9 <| And.intro @und_154 <| And.intro @und_22 <| And.intro @und_255 <| And.intro @zero_154 <| And.intro @zero_22 <| And.intro @zero_255 @zero_80) := And.intro @bs_22 <| And.intro @fld_257_0 <| And.intro @fld_257_1 <| And.intro @fld_257_2 <| And.intro @fld_257_3 <| And.intro @fld_257_4 <| And.intro @fld_257_5 <| And.intro @fld_257_6 <| And.intro @fld_257_7 <| And.intro @fld_257_8 <| And.intro @fld_257_9 <| And.intro @fp_110_1 <| And.intro @fp_257_0 <| And.intro @fp_257_2 <| And.intro @fp_257_4 <| And.intro @fp_257_5 <| And.intro @fp_257_6 <| And.intro @fp_257_8 <| And.intro @fp_257_9 <| And.intro @fp_38_1 <| And.intro @fp_38_2 <| And.intro @fp_47_0 <| And.intro @fp_49_1 <| And.intro @fp_49_3 <| And.intro @fp_49_6 <| And.intro @ix_22 <| And.intro @ld_154 <| And.intro @ld_22 <| And.intro @ld_255 <| And.intro @ld_32 <| And.intro @ld_36 <| And.intro @ld_49 <| And.intro @ld_80 <| And.intro @len_22 <| And.intro @len_36 <| And.intro @part_3 <| And.intro @size_154 <| And.intro @size_22 <| And.intro @size_255 <| And.intro @size_257 <| And.intro @size_3 <| And.intro @size_80 <| And.intro @sp_257_0 <| And.intro @sp_257_1 <| And.intro @sp_257_2 <| And.intro @sp_257_3 <| And.intro @sp_257_4 <| And.intro @sp_257_5 <| And.intro @sp_257_6 <| And.intro @sp_257_7 <| And.intro @sp_257_8 <| And.intro @sp_257_9 <| And.intro @und_154 <| And.intro @und_22 <| And.intro @und_255 <| And.intro @zero_154 <| And.intro @zero_22 <| And.intro @zero_255 @zero_80
theorem setAll_two (n : Nat) (f : Nat → Value) (t t' : Tmp) (v v' : Value) : setAll [t, t'] [v, v'] (T n f) = T n (upd (upd f t v) t' v') := by
  show tset (tset (T n f) t v) t' v' = _
  rw [tset_T, tset_T]
theorem IsState.notMut {N : Nat} {h : Heap} {p b : Nat} {σ : Sta} {v : StV} {x : AObj} (q : IsState N h p σ v) (hg : h.get b = some x) (hx : ∀ c, x ≠ .row c 1 true) (hm : ∀ es c, x ≠ .map es c) (hb : b ≠ p) : ¬ v.Mut p b ∧ blkOf v.stands ≠ some b := by
  refine ⟨?_, q.stands.other hg hx⟩
  rintro (e | rfl | e | e | e | e)
  · exact hb e
  · obtain ⟨es, c, e, _⟩ := q.left; rw [hg] at e; simp at e; exact hm _ _ e
  · exact q.sk.noRow hg hx e
  · exact q.hands.noRow hg hx e
  · exact q.hours.noRow hg hx e
  · exact q.paid.noRow hg hx e
theorem MR.lt {h : Heap} {v : Value} {l : List Int} {b : Nat} (q : MR h v l) (hk : HOK h) (hb : blkOf v = some b) : b < h.next := by
  rcases q with ⟨_, c, rfl⟩ | ⟨b', sp, c, rfl, h1⟩
  · simp [blkOf] at hb
  · simp [blkOf] at hb; subst hb; exact get_lt hk h1
theorem IsState.mut_lt {N : Nat} {h : Heap} {p b : Nat} {σ : Sta} {v : StV} (q : IsState N h p σ v) (hk : HOK h) (hb : v.Mut p b) : b < h.next := by
  rcases hb with rfl | rfl | e | e | e | e
  · exact get_lt hk q.row
  · obtain ⟨es, c, e, _⟩ := q.left; exact get_lt hk e
  · exact q.sk.lt hk e
  · exact q.hands.lt hk e
  · exact q.hours.lt hk e
  · exact q.paid.lt hk e
/-- acts of entries do what a row of states says -/
def Does (h : Heap) (evs : List EntryV) (T : Nat → Sta) : Prop := ∀ i u, evs[i]? = some u → ∀ h1 p v, HOK h1 → 0 < h1.next → Fr h h1 → IsState h.next h1 p (T i) v → ∃ act, CW CC 66 [.agg ⟨u.cells⟩] h1 (fun r h2 => r = act ∧ Fr h1 h2) ∧
  ∀ h2, HOK h2 → Fr h1 h2 → CW CC 158 [.pointer (some ⟨p, 0, none⟩), act] h2 fun _ h3 => IsState h.next h3 p { T (i + 1) with stands := (T i).stands } v ∧ Gr (v.Mut p) h2 h3
/-- what the loop over the entries that stand keeps -/
def StJ (M p c3 df l : Nat) (R : ALoop) (T : Nat → Sta) (F : Nat → Prop) (i : Nat) (h : Heap) : Prop := HOK h ∧ h.get c3 = some (.row [.pointer (some ⟨p, 0, none⟩)] 0 true) ∧ h.get df = some (.deferred true) ∧ h.get l = some (.loop R) ∧
  ∃ v, IsState M h p (T i) v ∧ (∀ b, F b ↔ v.Mut p b ∨ blkOf v.stands = some b ∨ b = l) ∧ c3 ≠ p ∧ v.left < c3
set_option maxRecDepth 20000 in
set_option maxHeartbeats 4000000 in
theorem stands_d {h : Heap} (hk : HOK h) (hp : 0 < h.next) {N d : Nat} {S : SuiteD} {E : List Entry} {w : DeskV} (D : IsDesk N h d S E w) (sm : S.Small) (ex1 : S.coats = exD.coats) (ex2 : S.bench = exD.bench) (ho : S.prices.offs.length ≤ 4) (he : w.evs.length ≤ 1000) (hu : ∀ e ∈ w.evs, e.kind ≠ 13) {T : Nat → Sta} (T0 : T 0 = sta0 S) (TS : ∀ i, (T (i + 1)).stands = (T i).stands ++ [(i : Int)]) (Hs : Does h w.evs T) :
    CW CC 63 [.pointer (some ⟨d, 0, none⟩)] h fun r h' => (∃ p v, r = .pointer (some ⟨p, 0, none⟩) ∧ IsState h.next h' p (T w.evs.length) v) ∧ Fr h h' := by
  have rd : rowAt h d = some (S.desk w) := by unfold rowAt; rw [D.row]; rfl
  refine CWo_in Tryz.f63 (by kernel_rfl) (by kernel_rfl) rfl rfl ?_
  simp only [Tryz.f63]
  simp (maxDischargeDepth := 30) only [AMS, AMH, ↓reduceIte, Nat.reduceLT, Nat.reduceEqDiff, Nat.reduceAdd, Nat.reduceMul, reduceCtorEq, decide_true, decide_false, Nat.reduceLeDiff, Int.reduceNe, Int.reduceEq, ne_eq, not_false_eq_true, and_self, XH, F63_T92, hk, rd, sd_su]
  refine W_call (own_d hk hp D.suite D.sk sm) ?_
  rintro _ h1 ⟨⟨u, rfl, iu, sk⟩, f1⟩
  have n1 := f1.next
  have k1 := f1.ok
  have mc : ∀ l, matchT (h1.ex l) false (dtOf coatFirst0A) [u.dry, u.wk, u.ct] = true := fun l => coats_match (iu.fr k1 (ex_fr l (Fr.refl k1))) ex1
  obtain ⟨p1, c1, e1⟩ := iu.bo.1.len
  obtain ⟨p2, c2, e2⟩ := iu.st.len
  obtain ⟨p3, c3, e3⟩ := iu.of.1.len
  rw [ex2] at e1 e2
  have e1 : u.bo = .slice p1 2 c1 := e1
  have e2 : u.st = .slice p2 4 c2 := e2
  have z1 : sameV u.bo u.bo = true := by rw [e1]; exact same_slice _ _ _
  have z2 : sameV u.st u.st = true := by rw [e2]; exact same_slice _ _ _
  have z3 : sameV u.of u.of = true := by rw [e3]; exact same_slice _ _ _
  simp (maxDischargeDepth := 30) only [AMS, AMH, ↓reduceIte, Nat.reduceLT, Nat.reduceEqDiff, Nat.reduceAdd, Nat.reduceMul, reduceCtorEq, decide_true, decide_false, Nat.reduceLeDiff, Int.reduceNe, Int.reduceEq, ne_eq, not_false_eq_true, and_self, XH, F63_T92, k1, build_state]
  refine W_draw [(true, 0), (true, 1), (true, 2), (true, 3), (true, 4), (true, 5), (true, 6), (false, 0), (true, 7), (true, 8), (true, 9), (true, 10), (true, 11), (true, 12)] (by kernel_rfl) ?_
  simp (maxDischargeDepth := 30) only [AMS, AMH, ↓reduceIte, Nat.reduceLT, Nat.reduceEqDiff, Nat.reduceAdd, Nat.reduceMul, reduceCtorEq, decide_true, decide_false, Nat.reduceLeDiff, Int.reduceNe, Int.reduceEq, ne_eq, not_false_eq_true, and_self, AMR, XH, SQ, F63_T92, k1, stv0, first_c, mc]
  refine W_draw [(true, 0), (true, 1), (true, 2), (true, 3), (true, 4), (true, 5), (true, 6), (true, 7), (true, 8), (true, 9), (false, 0), (true, 10), (true, 11), (true, 12)] (by kernel_rfl) ?_
  simp (maxDischargeDepth := 30) only [AMS, AMH, ↓reduceIte, Nat.reduceLT, Nat.reduceEqDiff, Nat.reduceAdd, Nat.reduceMul, reduceCtorEq, decide_true, decide_false, Nat.reduceLeDiff, Int.reduceNe, Int.reduceEq, ne_eq, not_false_eq_true, and_self, AMR, XH, SQ, F63_T92, k1, stv0, e2, rep4]
  refine W_draw [(true, 0), (true, 1), (true, 2), (true, 3), (true, 4), (true, 5), (true, 6), (true, 7), (true, 8), (true, 9), (false, 0), (true, 10), (true, 11), (true, 12)] (by kernel_rfl) ?_
  simp (maxDischargeDepth := 30) only [AMS, AMH, ↓reduceIte, Nat.reduceLT, Nat.reduceEqDiff, Nat.reduceAdd, Nat.reduceMul, reduceCtorEq, decide_true, decide_false, Nat.reduceLeDiff, Int.reduceNe, Int.reduceEq, ne_eq, not_false_eq_true, and_self, AMR, XH, SQ, F63_T92, k1, stv0, e1, rep2]
  refine W_draw [(true, 0), (true, 1), (true, 2), (true, 3), (true, 4), (true, 5), (true, 6), (true, 7), (true, 8), (true, 9), (true, 10), (true, 11)] (by kernel_rfl) ?_
  simp (maxDischargeDepth := 30) only [AMS, AMH, ↓reduceIte, Nat.reduceLT, Nat.reduceEqDiff, Nat.reduceAdd, Nat.reduceMul, reduceCtorEq, decide_true, decide_false, Nat.reduceLeDiff, Int.reduceNe, Int.reduceEq, ne_eq, not_false_eq_true, and_self, AMR, XH, SQ, F63_T92, k1, stv0, e3, e2, mk_z ho]
  have hkey : ∀ n : Int, keyFits CC 3 (.int .i64 n) = true := fun n => by kernel_rfl
  refine W_for [4, 69, 70, 71, 72, 73, 74, 75, 76, 77] 69 4 (fun i g h' => ∃ es cl, h' = h1.ex (.map es cl :: objsA2 S u h1.next S.prices.offs.length) ∧ Keys es (upto i))
    (by simp only [upd_at, ↓reduceIte]) ⟨[], 0, rfl, rfl⟩ ?_ ?_
  · rintro i g _ hi ag g69 ⟨es, cl, rfl, hes⟩ ih
    have hf := (KV.find (K := Value.int .i64) (V := fun _ => .bool true) int_eq 0 (i : Int) hes).2 (by intro hm; unfold upto at hm; rw [List.mem_map] at hm; obtain ⟨j, hj, e⟩ := hm; rw [List.mem_range] at hj; omega)
    have eu := update_of (C := CC) (v := .bool true) und_255 (hkey i) (ex_at0 (h := h1) (x := .map es cl) (l := objsA2 S u h1.next S.prices.offs.length) rfl) hf
    rw [ex_put0 _ rfl] at eu
    simp (maxDischargeDepth := 30) only [AMS, AMH, ↓reduceIte, Nat.reduceLT, Nat.reduceEqDiff, Nat.reduceAdd, Nat.reduceMul, reduceCtorEq, decide_true, decide_false, Nat.reduceLeDiff, Int.reduceNe, Int.reduceEq, ne_eq, not_false_eq_true, and_self, XH, SQ, F63_T92, ag.r, NE, g69, k1, lt_t hi, objsA2, stvA] at eu ⊢
    simp (maxDischargeDepth := 30) only [AMS, AMH, ↓reduceIte, Nat.reduceLT, Nat.reduceEqDiff, Nat.reduceAdd, Nat.reduceMul, reduceCtorEq, decide_true, decide_false, Nat.reduceLeDiff, Int.reduceNe, Int.reduceEq, ne_eq, not_false_eq_true, and_self, XH, SQ, F63_T92, ag.r, NE, g69, k1, eu, i_next hi (by omega)]
    exact ih _ _ (by simp only [AG, Nat.reduceEqDiff, ag]) (by simp only [upd_at, ↓reduceIte]) ⟨_, _, rfl, by rw [upto_succ]; exact KV.snoc (K := Value.int .i64) (V := fun _ => .bool true) hes (i : Int) cl⟩
  · rintro g _ ag g69 ⟨es, cl, rfl, hes⟩
    have st := start_state f1 iu sk (cl := cl) hes
    have fx := ex_fr (.map es cl :: objsA2 S u h1.next S.prices.offs.length) f1
    have c3 : (h1.ex (.map es cl :: objsA2 S u h1.next S.prices.offs.length)).get (h1.next + 2) = some (.row [.pointer (some ⟨h1.next + 1, 0, none⟩)] 0 true) := by rw [ex_at rfl (by simp [objsA2])]; rfl
    generalize (h1.ex (.map es cl :: objsA2 S u h1.next S.prices.offs.length)) = h2 at st fx c3 ⊢
    simp (maxDischargeDepth := 30) only [AMS, AMH, ↓reduceIte, Nat.reduceLT, Nat.reduceEqDiff, Nat.reduceAdd, Nat.reduceMul, reduceCtorEq, decide_true, decide_false, Nat.reduceLeDiff, Int.reduceNe, Int.reduceEq, ne_eq, not_false_eq_true, and_self, XH, SQ, F63_T92, ag.r, NE, g69, fx.ok, lt_f, standing_d, L_range]
    have nx := fx.next
    have tl : ∀ i, (T i).stands.length = i := fun i => by
      induction i with
      | zero => rw [T0]; rfl
      | succ i ih => rw [TS]; simp [ih]
    have pc : h1.next + 2 < h2.next := get_lt fx.ok c3
    have fA := ex_fr [.row [.pointer (some ⟨d, 0, none⟩)] 0 true] (Fr.refl fx.ok)
    have gA : (h2.ex [.row [.pointer (some ⟨d, 0, none⟩)] 0 true]).get h2.next = some (.row [.pointer (some ⟨d, 0, none⟩)] 0 true) := ex_at0 rfl
    have nA : (h2.ex [.row [.pointer (some ⟨d, 0, none⟩)] 0 true]).next = h2.next + 1 := by rw [ex_next]; rfl
    have cA := fA.get' fx.ok c3
    have sA := st.fr fx.ok fA
    have fhA := fx.trans fA
    generalize (h2.ex [.row [.pointer (some ⟨d, 0, none⟩)] 0 true]) = hA at fA gA nA cA sA fhA ⊢
    refine W_range' (P := fun R _ h' => (∃ F, StJ h.next (h1.next + 1) (h1.next + 2) hA.next (hA.next + 1) R T F w.evs.length h') ∧ Fr h h') ?_ ?_
    · intro R hR
      have f4 : Fr hA ((hA.alloc (.deferred true)).alloc (.loop R)) := ((Fr.refl fA.ok).alloc _).alloc _
      have d4 : ((hA.alloc (.deferred true)).alloc (.loop R)).get hA.next = some (.deferred true) := by rw [get_old _ (by simp)]; exact get_at _ rfl
      have l4 : ((hA.alloc (.deferred true)).alloc (.loop R)).get (hA.next + 1) = some (.loop R) := get_at _ (by simp)
      have c4 := f4.get' fA.ok cA
      have g4 := f4.get' fA.ok gA
      have n4 : ((hA.alloc (.deferred true)).alloc (.loop R)).next = hA.next + 2 := by simp
      have s4 := sA.fr fA.ok f4
      generalize ((hA.alloc (.deferred true)).alloc (.loop R)) = hB at f4 d4 l4 c4 g4 n4 s4 ⊢
      have X : EatsN (StJ h.next (h1.next + 1) (h1.next + 2) hA.next (hA.next + 1) R T) (hA.next + 1) h w.evs := by
        refine ⟨?_, ?_, ?_⟩
        · rintro F i g ⟨kg, gc, gd, gl, v, sv, hF, hc⟩ b hb
          rcases (hF b).1 hb with hb | hb | rfl
          · exact ⟨sv.mut_low hb, sv.mut_lt kg hb⟩
          · exact sv.stands.blk_lt kg hb
          · exact ⟨by omega, get_lt kg gl⟩
        · rintro F i g g' ⟨kg, gc, gd, gl, v, sv, hF, hc⟩ _ fr
          exact ⟨fr.ok, fr.get' kg gc, fr.get' kg gd, fr.get' kg gl, v, sv.fr kg fr, hF, hc⟩
        · rintro F i gh u kg hg0 fg ⟨_, gc, gd, gl, v, sv, hF, hc⟩ gu
          have rok : isReady R.state = true := by rw [hR]; rfl
          have hA1 : R.assign = _ := congrArg ALoop.assign hR
          have hA2 : R.body = _ := congrArg ALoop.body hR
          have hA3 : R.params = _ := congrArg ALoop.params hR
          have hA4 : R.tmps = _ := congrArg ALoop.tmps hR
          have hR1 : (R.turn .busy R.pending).turn (stateBehind none) none = R := by rw [hR]; rfl
          simp only [loopRec] at hA1 hA2 hA3 hA4
          have ng := fg.next
          have lg := get_lt kg gl
          have cg := get_lt kg gc
          have dg := get_lt kg gd
          obtain ⟨en, _, hen⟩ := LR.get' D.nums gu
          obtain ⟨pu, cu, eu⟩ := hen.2.1.len
          have key : ∃ b h', yieldTo (Lim CC) (hA.next + 1) [Value.int IntKind.i64 ↑i, Value.agg ⟨u.cells⟩] gh = some (.ret (.bool b) h' none) ∧ (b = true ∧ Gr F gh h' ∧ ∃ F', (∀ b, F' b → F b ∨ gh.next ≤ b) ∧ StJ h.next (h1.next + 1) (h1.next + 2) hA.next (hA.next + 1) R T F' (i + 1) h') := by
            refine yield_of (P := fun b h' => b = true ∧ Gr F gh h' ∧ ∃ F', (∀ b, F' b → F b ∨ gh.next ≤ b) ∧ StJ h.next (h1.next + 1) (h1.next + 2) hA.next (hA.next + 1) R T F' (i + 1) h') gl (by rw [hA3]; rfl) ?_
            rw [hA1, hA2, hA3, hA4, setAll_two]
            have gl' : (gh.ex [.row [.int .i64 u.kind, .slice pu en.nums.length cu] 0 true]).get (hA.next + 1) = some (.loop R) := by rw [ex_lt lg]; exact gl
            simp (maxDischargeDepth := 30) only [AMS, AMH, ↓reduceIte, Nat.reduceLT, Nat.reduceEqDiff, Nat.reduceAdd, Nat.reduceMul, reduceCtorEq, decide_true, decide_false, Nat.reduceLeDiff, Int.reduceNe, Int.reduceEq, ne_eq, not_false_eq_true, and_self, XH, F63_T92, kg, EntryV.cells, eu, L_begin gl' rok, lg]
            have rB : RK gh ((gh.set (hA.next + 1) (.loop (R.turn .busy R.pending))).ex [.row [.int .i64 u.kind, .slice pu en.nums.length cu] 0 true]) :=
              ⟨ex_ok _ (kg.set lg _), by simp [ex_next], fun j l s o hj => by
                rw [ex_lt (by simpa using get_lt kg hj), Heap.get_set_ne _ _ (by rintro rfl; rw [gl] at hj; simp at hj)]; exact hj⟩
            have oB : ∀ j, j < gh.next → j ≠ hA.next + 1 → ((gh.set (hA.next + 1) (.loop (R.turn .busy R.pending))).ex [.row [.int .i64 u.kind, .slice pu en.nums.length cu] 0 true]).get j = gh.get j := fun j hj hn => by
              rw [ex_lt (by simpa using hj), Heap.get_set_ne _ _ hn]
            have lB : ((gh.set (hA.next + 1) (.loop (R.turn .busy R.pending))).ex [.row [.int .i64 u.kind, .slice pu en.nums.length cu] 0 true]).get (hA.next + 1) = some (.loop (R.turn .busy R.pending)) := by rw [ex_lt (by simpa using lg), get_set_self']
            have uB : ((gh.set (hA.next + 1) (.loop (R.turn .busy R.pending))).ex [.row [.int .i64 u.kind, .slice pu en.nums.length cu] 0 true]).get gh.next = some (.row [.int .i64 u.kind, .slice pu en.nums.length cu] 0 true) := ex_at0 (by simp)
            have nB : ((gh.set (hA.next + 1) (.loop (R.turn .busy R.pending))).ex [.row [.int .i64 u.kind, .slice pu en.nums.length cu] 0 true]).next = gh.next + 1 := by simp [ex_next]
            generalize ((gh.set (hA.next + 1) (.loop (R.turn .busy R.pending))).ex [.row [.int .i64 u.kind, .slice pu en.nums.length cu] 0 true]) = hC at rB oB lB uB nB ⊢
            refine W_draw [(true, 0), (true, 1), (true, 2), (false, 0), (true, 3)] (by kernel_rfl) ?_
            have rc : rowAt hC (h1.next + 2) = some [.pointer (some ⟨h1.next + 1, 0, none⟩)] := by unfold rowAt; rw [rB.row _ _ _ _ gc]; rfl
            have ru : rowAt hC gh.next = some [.int .i64 u.kind, .slice pu en.nums.length cu] := by unfold rowAt; rw [uB]; rfl
            have ml : v.left < gh.next ∧ v.left ≠ hA.next + 1 := by
              obtain ⟨es, c, e, _⟩ := sv.left
              exact ⟨get_lt kg e, by intro e'; rw [e', gl] at e; simp at e⟩
            have svC := sv.rk rB (oB _ ml.1 ml.2)
            have fC : Fr h hC := ⟨rB.ok, by omega, fun j hj => by rw [oB j (by omega) (by omega)]; exact fg.get j hj⟩
            obtain ⟨act, hact, hdoes⟩ := Hs i u gu hC (h1.next + 1) v rB.ok (by omega) fC svC
            rw [EntryV.cells, eu] at hact
            simp (maxDischargeDepth := 30) only [AMS, AMH, ↓reduceIte, Nat.reduceLT, Nat.reduceEqDiff, Nat.reduceAdd, Nat.reduceMul, reduceCtorEq, decide_true, decide_false, Nat.reduceLeDiff, Int.reduceNe, Int.reduceEq, ne_eq, not_false_eq_true, and_self, AMR, XH, F63_T92, rB.ok, ag.r, NE, rc, ru]
            refine W_callP hact ?_
            rintro _ hD ⟨rfl, fD⟩
            have rcD := fD.row' rB.ok rc
            simp (maxDischargeDepth := 30) only [AMS, AMH, ↓reduceIte, Nat.reduceLT, Nat.reduceEqDiff, Nat.reduceAdd, Nat.reduceMul, reduceCtorEq, decide_true, decide_false, Nat.reduceLeDiff, Int.reduceNe, Int.reduceEq, ne_eq, not_false_eq_true, and_self, AMR, XH, F63_T92, fD.ok, ag.r, NE, rcD]
            refine W_callP (hdoes hD fD.ok fD) ?_
            rintro _ hE ⟨sE, gE⟩
            have cD := fD.get' rB.ok (rB.row _ _ _ _ gc)
            have dC : hC.get hA.next = some (.deferred true) := by rw [oB _ dg (by omega)]; exact gd
            have dD := fD.get' rB.ok dC
            have lD := fD.get' rB.ok lB
            have sD := svC.fr rB.ok fD
            have cE := gE.get' fD.ok (sD.notMut cD (by simp) (by simp) (by omega)).1 cD
            have dE := gE.get' fD.ok (sD.notMut dD (by simp) (by simp) (by omega)).1 dD
            have lE := gE.get' fD.ok (sD.notMut lD (by simp) (by simp) (by omega)).1 lD
            have nD := fD.next
            have nE := gE.next
            have rcE : rowAt hE (h1.next + 2) = some [.pointer (some ⟨h1.next + 1, 0, none⟩)] := by unfold rowAt; rw [cE]; rfl
            have rpE : rowAt hE (h1.next + 1) = some (Sta.cells { T (i + 1) with stands := (T i).stands } v) := by unfold rowAt; rw [sE.row]; rfl
            have ti := tl i
            obtain ⟨h5, e5, k5, g5p, s5, gr5⟩ := stand_step gE.ok (by omega) sE (i : Int) (by show (T i).stands.length ≤ 1000; rw [ti]; have := (List.getElem?_eq_some_iff.1 gu).1; omega) (by omega)
            have zst : sameV v.stands v.stands = true := by obtain ⟨a, b, e⟩ := sE.stands.value; rw [e]; exact same_slice _ _ _
            have ncE := sE.notMut cE (by simp) (by simp) (by omega)
            have ndE := sE.notMut dE (by simp) (by simp) (by omega)
            have nlE := sE.notMut lE (by simp) (by simp) (by omega)
            have g5c : h5.get (h1.next + 2) = hE.get (h1.next + 2) := by
              have := gr5.get (h1.next + 2) (get_lt gE.ok cE) (by rintro (e | e); omega; exact ncE.2 e)
              rw [Heap.get_set_ne _ _ (by omega)] at this; exact this
            have rc5 : rowAt h5 (h1.next + 2) = some [.pointer (some ⟨h1.next + 1, 0, none⟩)] := by unfold rowAt; rw [g5c, cE]; rfl
            have rp5 : rowAt h5 (h1.next + 1) = some (Sta.cells { T (i + 1) with stands := (T i).stands } v) := by unfold rowAt; rw [g5p]; rfl
            have lc5 : h1.next + 2 < hE.next := get_lt gE.ok cE
            have lp5 : h1.next + 1 < hE.next := get_lt gE.ok sE.row
            simp (maxDischargeDepth := 30) only [AMS, AMH, ↓reduceIte, Nat.reduceLT, Nat.reduceEqDiff, Nat.reduceAdd, Nat.reduceMul, reduceCtorEq, decide_true, decide_false, Nat.reduceLeDiff, Int.reduceNe, Int.reduceEq, ne_eq, not_false_eq_true, and_self, AMR, XH, F63_T92, gE.ok, NE, ag.r, rcE]
            refine W_draw [(true, 0), (true, 1), (true, 2), (true, 3), (true, 4), (true, 5), (true, 6), (true, 7), (false, 0), (true, 8), (true, 9), (true, 10)] (by kernel_rfl) ?_
            simp (maxDischargeDepth := 30) only [AMS, AMH, ↓reduceIte, Nat.reduceLT, Nat.reduceEqDiff, Nat.reduceAdd, Nat.reduceMul, reduceCtorEq, decide_true, decide_false, Nat.reduceLeDiff, Int.reduceNe, Int.reduceEq, ne_eq, not_false_eq_true, and_self, AMR, XH, SQ, F63_T92, gE.ok, NE, ag.r, rcE, rpE, stc_st, zst, lc5, lp5, e5, k5, rc5, rp5, g5p]
            dsimp only at s5 gr5
            generalize (h5.set (h1.next + 1) (AObj.row (Sta.cells { T (i + 1) with stands := (T i).stands } { v with stands := .slice (some ⟨hE.next + 1, 0, some 1⟩) ((T i).stands.length + 1) ((T i).stands.length + 1) }) 0 true)) = hF' at s5 gr5 ⊢
            rw [show ({ T (i + 1) with stands := (T i).stands ++ [(i : Int)] } : Sta) = T (i + 1) by rw [← TS]] at s5
            have nF := gr5.next
            have lF := gr5.get' gE.ok (by rintro (e | e); omega; exact nlE.2 e) lE
            have cF := gr5.get' gE.ok (by rintro (e | e); omega; exact ncE.2 e) cE
            have dF := gr5.get' gE.ok (by rintro (e | e); omega; exact ndE.2 e) dE
            have lz := get_lt gr5.ok lF
            refine ⟨none, R.turn .busy R.pending, rfl, trivial, lF, rfl, ?_, fun b => v.Mut (h1.next + 1) b ∨ b = hE.next + 1 ∨ b = hA.next + 1, ?_, ?_⟩
            · refine ⟨gr5.ok.set lz _, by simp; omega, fun j hj hn => ?_⟩
              have hn' := fun e => hn ((hF j).2 e)
              rw [Heap.get_set_ne _ _ (fun e => hn' (.inr (.inr e))), gr5.get j (by omega) (by rintro (e | e); exact hn' (.inl (.inl e)); exact hn' (.inr (.inl e))), gE.get j (by omega) (fun e => hn' (.inl e)), fD.get j (by omega), oB j hj fun e => hn' (.inr (.inr e))]
            · rintro b (hb | hb | hb)
              · exact .inl ((hF b).2 (.inl hb))
              · exact .inr (by omega)
              · exact .inl ((hF b).2 (.inr (.inr hb)))
            · have rk : RK hF' (hF'.set (hA.next + 1) (.loop ((R.turn .busy R.pending).turn (stateBehind none) none))) := ⟨gr5.ok.set lz _, by simp, fun j l s o hj => by
                rw [Heap.get_set_ne _ _ (by rintro rfl; rw [lF] at hj; simp at hj)]; exact hj⟩
              refine ⟨rk.ok, by rw [Heap.get_set_ne _ _ (by omega)]; exact cF, by rw [Heap.get_set_ne _ _ (by omega)]; exact dF, by rw [get_set_self', hR1], _, s5.rk rk (Heap.get_set_ne _ _ ml.2), fun b => ?_, hc⟩
              constructor
              · rintro (e | e | e)
                · exact .inl e
                · exact .inr (.inl (by rw [e]; rfl))
                · exact .inr (.inr e)
              · rintro (e | e | e)
                · exact .inl e
                · exact .inr (.inl (by have e : some (hE.next + 1) = some b := e; simp at e; exact e.symm))
                · exact .inr (.inr e)
          obtain ⟨b, h', e, rfl, gr, rest⟩ := key
          exact ⟨h', e, gr, rest⟩
      have fh4 := fhA.trans f4
      obtain ⟨rv, h', e, ⟨F', hJ⟩, fr⟩ := standing1 hk fh4 (by omega) X D g4 (F := fun b => (stvA u h1.next S.prices.offs.length).Mut (h1.next + 1) b ∨ blkOf (stvA u h1.next S.prices.offs.length).stands = some b ∨ b = hA.next + 1)
        (by rintro (hb | hb | hb)
            · exact (s4.notMut g4 (by simp) (by simp) (by omega)).1 hb
            · simp [stvA, blkOf] at hb
            · omega) hu he ⟨f4.ok, c4, d4, l4, _, by rw [T0]; exact s4, fun b => Iff.rfl, by omega, by show h1.next < _; omega⟩
      exact ⟨rv, h', e, ⟨F', hJ⟩, fr⟩
    · rintro R hR rv h' ⟨⟨F, kg, gc, gd, gl, v, sv, hF, hc⟩, fr⟩
      refine ⟨R, gl, by rw [hR]; rfl, ?_⟩
      have hp' : R.pending = none := by rw [hR]; rfl
      rw [hp', items_none, mark_nil]
      have ml := get_lt kg gl
      have c2 : rowAt (h'.set (hA.next + 1) (.loop (R.turn .exhausted none))) (h1.next + 2) = some [.pointer (some ⟨h1.next + 1, 0, none⟩)] := by unfold rowAt; rw [Heap.get_set_ne _ _ (by omega), gc]; rfl
      have d2 : (h'.set (hA.next + 1) (.loop (R.turn .exhausted none))).get hA.next = some (.deferred true) := by rw [Heap.get_set_ne _ _ (by omega)]; exact gd
      have f2 : Fr h (h'.set (hA.next + 1) (.loop (R.turn .exhausted none))) := fr.set (by omega) ml _
      have s2 : IsState h.next (h'.set (hA.next + 1) (.loop (R.turn .exhausted none))) (h1.next + 1) (T w.evs.length) v := sv.rk ⟨f2.ok, by simp, fun j l s o hj => by
        rw [Heap.get_set_ne _ _ (by rintro rfl; rw [gl] at hj; simp at hj)]; exact hj⟩ (Heap.get_set_ne _ _ (by
          obtain ⟨es, c, e, _⟩ := sv.left; intro e'; rw [e', gl] at e; simp at e))
      generalize (h'.set (hA.next + 1) (.loop (R.turn .exhausted none))) = h2' at c2 d2 f2 s2 ⊢
      simp (maxDischargeDepth := 30) only [AMS, AMH, ↓reduceIte, Nat.reduceLT, Nat.reduceEqDiff, Nat.reduceAdd, Nat.reduceMul, reduceCtorEq, decide_true, decide_false, Nat.reduceLeDiff, Int.reduceNe, Int.reduceEq, ne_eq, not_false_eq_true, and_self, XH, F63_T92, f2.ok, NE, ag.r, c2, PostO_retD]
      have dl := get_lt f2.ok d2
      have s3 := s2.rk (h' := h2'.set hA.next (.deferred false)) ⟨f2.ok.set dl _, by simp, fun j l s o hj => by
        rw [Heap.get_set_ne _ _ (by rintro rfl; rw [d2] at hj; simp at hj)]; exact hj⟩ (Heap.get_set_ne _ _ (by
          obtain ⟨es, c, e, _⟩ := s2.left; intro e'; rw [e', d2] at e; simp at e))
      exact ⟨d2, ⟨h1.next + 1, v, rfl, s3⟩, f2.set (by omega) dl _⟩
end Go.Am
