/- Parts Am13, Am14 of the abstract machine over this program, joined: what each part says stands at its head. -/
import Derived.Test.YtlflfbnnjlkkcaaGreatJAm9
set_option linter.unusedSimpArgs false
set_option linter.unusedVariables false
set_option linter.defProp false
namespace Go.Am
open Go
theorem Qa (A L R:List Value) (b o:Nat) (h:b+o<=A.length):((A.take (b+o)++L++R).drop b).take (o+L.length)=(A.drop b).take o++L:=by
 apply List.ext_getElem?
 intro i
 simp only[List.getElem?_take,List.getElem?_drop,List.getElem?_append,List.length_append,List.length_take,List.length_drop]
 have e1:min (b+o) A.length=b+o:=by omega
 have e2:min o (A.length -b)=o:=by omega
 rw[e1,e2]
 by_cases h2:i<o
 ·simp[h2,show i<o+L.length from by omega,show b+i<b+o from by omega,show b+i<b+o+L.length from by omega]
 ·by_cases h3:i -o<L.length
  ·simp[h2,show i<o+L.length from by omega,show b+i<b+o+L.length from by omega,show¬b+i<b+o from by omega,show b+i -(b+o)=i -o from by omega]
  ·rw[if_neg (by omega),if_neg h2,List.getElem?_eq_none (by omega)]
section
variable {C:Ctx} (hC:C.Ok0) {good:Code ->Prop} {w0:World} {μ:Mu} {h:Heap} {w:World}
theorem Bv {P:Program} {x X:Value} {n:Nat} (hx:VRel μ x X) (hn:i8 x=some n):(Builtin.lenOf X).run P w= .ok n w:=by
 cases x<;>simp[i8]at hn
 ·obtain rfl:=hx.string_inv
  subst hn
  rfl
 ·rename_i p m c
  subst hn
  cases p with
  |none=>obtain rfl:=hx.nilslice_inv;rfl
  |some p=>obtain⟨A,CAP,rfl,_⟩:=hx.slice_inv;rfl
include hC
omit hC in
theorem HG (H:HRel good w0 μ h w) {el:TypeId} {s len CAP:Nat} {new NEW REST:List Value} (hr:VRels μ new NEW) (hn:new.length=len*s) (hR:(NEW++REST).length=CAP*s) (hlc:len<=CAP) (o:Heap)
  (ho:o=h.alloc (.row new s true)):
  ∃e,Fresh h.next μ (μ.upd h.next e)/\ HRel good w0 (μ.upd h.next e) o (w.drew.alloc (.cells (NEW++REST).toArray el))/\
   VRel (μ.upd h.next e) (aG s len len h.next) (.slice (some ⟨w.heap.size,0,none⟩) len CAP):=by
 subst ho
 have hf:=H.fresh
 have hpos:=H.pos
 refine⟨⟨w.heap.size,0,CAP*s,s⟩,Fresh.upd μ _ (Nat.le_refl _),?_,?_⟩
 ·refine(H.allocA (.row new s true)).grew (CAP*s) s hf (by omega) (by simp) (Heap.get_alloc_self _ _) (Grew.drew_alloc w _) ?_
  refine⟨_,el,(0,0),rfl,by simp only[List.size_toArray,hR];omega,?_,rfl,?_,fun _=>⟨H.size,fun j _ hj=>by simp at hj⟩⟩
  ·rw[hn];exact Nat.mul_le_mul_right _ hlc
  ·have:(((NEW++REST).toArray.toList.drop 0).take new.length)=NEW:=by
    simp only[List.drop_zero]
    rw[hr.1]
    simp
   dsimp only
   rw[this]
   exact hr.mono (Mu.le_upd _ hf)
 ·exact mh (μ:=μ) h.next ⟨w.heap.size,0,CAP*s,s⟩ rfl (by omega) len len CAP hlc hlc (Nat.le_refl _)
theorem Kk (H : HRel good w0 μ h w) {ts : Array TypeId} {ty : TypeId} {s x S X v : Value} {h' : Heap} {ARGS : Array Value} (hS : ARGS[0]? = some S) (hX : ARGS[1]? = some X) (hs : VRel μ s S) (hx : VRel μ x X)
    (ha : ck C ts.toList s x h = some (v, h')) :
    ∃ V w' μ', (Builtin.append_ ts ty ARGS).run C.P w = .ok V w' ∧ μ.le μ' ∧ Fresh h.next μ μ' ∧ HRel good w0 μ' h' w' ∧ VRel μ' v V := by
  unfold ck at ha
  split at ha
  case h_2 => simp at ha
  rename_i t u rest hts
  obtain ⟨d, hd, h1⟩ := ab ha
  obtain ⟨e, he, h2⟩ := ab h1
  obtain ⟨i, hi, h3⟩ := ab h2
  obtain ⟨du, hdu, h4⟩ := ab h3
  obtain ⟨hly0, h5⟩ := aq h4
  simp only [Bool.and_eq_true] at hly0
  obtain ⟨hly, hzs⟩ := hly0
  obtain ⟨z, hz, hzl⟩ : ∃ z, C.zero e = some z ∧ (cellsOf z).length = i.size := by
    unfold lk at hzs
    split at hzs
    · exact ⟨_, ‹_›, Nat.eq_of_beq_eq_true hzs⟩
    · simp at hzs
  obtain ⟨⟨p, len, cap⟩, hq, h6⟩ := ab h5
  obtain ⟨n, hn, h7⟩ := ab h6
  cases d <;> simp [dy] at he
  rename_i el
  subst he
  have ht0 : ts[0]? = some t := by rw [← Array.getElem?_toList, hts]; rfl
  have ht1 : ts[1]? = some u := by rw [← Array.getElem?_toList, hts]; rfl
  have es : s = .slice p len cap := by
    cases s <;> simp [jQ] at hq
    obtain ⟨rfl, rfl, rfl⟩ := hq; rfl
  subst es
  have hsz : C.size el = some i.size := by unfold Ctx.size; rw [hi]; rfl
  obtain ⟨hnil, h8⟩ := aq h7
  dsimp only at hnil h8
  obtain ⟨P0, CAP, rfl, hlc, hcc, hpn⟩ : ∃ P0 CAP, S = .slice P0 len CAP ∧ len ≤ CAP ∧ cap ≤ CAP ∧ ((p = none ∧ P0 = none ∧ CAP = 0) ∨ ∃ a A, p = some a ∧ P0 = some A ∧ Iu μ a A CAP) := by
    cases p with
    | none =>
      simp only [Bh, Bool.and_eq_true] at hnil
      have := Nat.eq_of_beq_eq_true hnil.1
      have := Nat.eq_of_beq_eq_true hnil.2
      exact ⟨none, cap, hs.nilslice_inv, by omega, by omega, .inl ⟨rfl, rfl, by omega⟩⟩
    | some p => obtain ⟨A, CAP, rfl, h1, h2, h3⟩ := hs.slice_inv; exact ⟨some A, CAP, rfl, h2, h1, .inr ⟨p, A, rfl, rfl, h3⟩⟩
  have hlenX := Bv (P := C.P) (w := w) hx hn
  have room : len + n ≤ CAP → ∀ (NEW : Array Value) w', (Builtin.firstCells i.size n X).run C.P w = .ok NEW w →
      (match P0 with | some a => storeCells (a.add (len * i.size)) NEW.toList | none => pure () : Sem Unit).run C.P w = .ok () w' →
      (Builtin.append_ ts ty ARGS).run C.P w = .ok (.slice P0 (len + n) CAP) w' := by
    intro hr NEW w' hf hst
    unfold Builtin.append_
    simp only [ht0, ht1, hS, hX, Sem.run_bind, bE hC hd, cE hC hsz, Result.andThen_ok]
    cases du <;> first
      | (exact absurd hly Bool.false_ne_true)
      | (simp only [bE hC hdu, Sem.run_bind, Result.andThen_ok, Sem.run_pure, Bool.false_eq_true, if_false, hlenX, Bool.not_false, if_true, if_pos hr, hf]
         cases P0 with
         | none => dsimp only at hst; simp at hst; subst hst; rfl
         | some a => dsimp only at hst; simp only [Sem.run_bind, hst, Result.andThen_ok, Sem.run_pure])
  have hzc : z.cells.size = i.size := by have := (oI (μ := μ) hC hz).1; rw [hzl] at this; simpa using this.symm
  have grow : CAP < len + n → len + n ≤ 35184372088832 → (len + n) * i.bytes ≤ 35184372088832 → ∀ (OLD NEW : Array Value), (Builtin.firstCells i.size len (.slice P0 len CAP)).run C.P w.drew = .ok OLD w.drew →
      (Builtin.firstCells i.size n X).run C.P w.drew = .ok NEW w.drew →
      (Builtin.append_ ts ty ARGS).run C.P w = .ok (.slice (some ⟨w.heap.size, 0, none⟩) (len + n) (grownCap w (len + n) CAP el))
        (w.drew.alloc (.cells (OLD ++ NEW ++ Builtin.zeroCells z.cells (grownCap w (len + n) CAP el - (len + n))) el)) := by
    intro hg h63 hby OLD NEW hO hN
    have hfit := growslice_fits (bytes := i.bytes) hg (by omega)
    unfold Builtin.append_
    simp only [ht0, ht1, hS, hX, Sem.run_bind, bE hC hd, cE hC hsz, Result.andThen_ok]
    have hq : (Question.appendCap (len + n) CAP el).forced = false := rfl
    have hmax : IntKind.i64.max = 9223372036854775807 := by decide
    cases du <;> first
      | (exact absurd hly Bool.false_ne_true)
      | (simp only [bE hC hdu, Sem.run_bind, Result.andThen_ok, Sem.run_pure, Bool.false_eq_true, if_false, hlenX, Bool.not_false, if_true, if_neg (Nat.not_le_of_lt hg), j8 hC hi]
         rw [if_neg (by rw [hmax]; omega)]
         simp only [Sem.run_bind, j8 hC hi, Result.andThen_ok]
         rw [if_neg (by omega)]
         simp only [Sem.run_bind, run_choose, hq, Bool.false_eq_true, if_false, Result.andThen_ok, j8 hC hi, run_askRoom, World.drew_eq, hO, hN, gI hC hz, Sem.run_pure, newRow, run_newObj, World.alloc_eq]
         rfl)
  have hpos := H.pos
  cases n with
  | zero =>
    simp at h8
    obtain ⟨rfl, rfl⟩ := h8
    have hc0 : bf h i.size 0 x = some [] := by
      cases x <;> simp [i8] at hn
      · simp [bf]
      · rename_i q _ _; cases q <;> rfl
    obtain ⟨NEW, hN, hNr⟩ := eW (C := C) H (.inr ⟨0, hn, Nat.le_refl _⟩) hx hc0
    have hN0 : NEW.toList = [] := hNr.nil_inv
    refine ⟨.slice P0 (len + 0) CAP, w, μ, room (by omega) NEW w hN ?_, Mu.le.refl _, Fresh.refl _ _, H, ?_⟩
    · rw [hN0]; cases P0 <;> rfl
    · rcases hpn with ⟨rfl, rfl, h0⟩ | ⟨a, A, rfl, rfl, hsl⟩
      · simp only [Bh, Bool.and_eq_true] at hnil
        have e1 := Nat.eq_of_beq_eq_true hnil.1
        have e2 := Nat.eq_of_beq_eq_true hnil.2
        rw [e1, e2, h0]
        exact .plain _ rfl
      · exact .slice _ _ _ _ _ hcc (by omega) hsl
  | succ m =>
    obtain ⟨hb, h9⟩ := aq h8
    simp only [Bool.and_eq_true] at hb
    have hb1 := Nat.le_of_ble_eq_true hb.1
    have hb2 := Nat.le_of_ble_eq_true hb.2
    obtain ⟨new, hnew, h10⟩ := ab h9
    obtain ⟨hone, h11⟩ := aq h10
    obtain ⟨hnl, h12⟩ := aq h11
    have hnl := Nat.eq_of_beq_eq_true hnl
    obtain ⟨h2', hgt, h13⟩ := ab h12
    simp at h13
    obtain ⟨rfl, rfl⟩ := h13
    obtain ⟨NEW, hN, hNr⟩ := eW (C := C) H (.inl hn) hx hnew
    have Hd : HRel good w0 μ h w.drew := H.quiet (Quiet.drew w)
    obtain ⟨NEW', hN', hNr'⟩ := eW (C := C) Hd (.inl hn) hx hnew
    have hge := grownCap_ge w (len + (m + 1)) CAP el
    have hzlen : ∀ k, (Builtin.zeroCells z.cells k).toList.length = k * i.size := by intro k; simp [Builtin.zeroCells, hzc]
    have fresh0 : len = 0 → CAP = 0 → h2' = h.alloc (.row new i.size true) → (Builtin.firstCells i.size len (.slice P0 len CAP)).run C.P w.drew = .ok #[] w.drew →
        ∃ V w' μ', (Builtin.append_ ts ty ARGS).run C.P w = .ok V w' ∧ μ.le μ' ∧ Fresh h.next μ μ' ∧ HRel good w0 μ' h2' w' ∧ VRel μ' (aG i.size (len + (m + 1)) (len + (m + 1)) h.next) V := by
      intro l0 c0 hh hO
      subst l0; subst c0
      have hrun := grow (by omega) hb2 hb1 #[] NEW' hO hN'
      obtain ⟨e, f1, f2, f3⟩ := HG (el := el) (s := i.size) (len := 0 + (m + 1)) (CAP := grownCap w (0 + (m + 1)) 0 el) (REST := (Builtin.zeroCells z.cells (grownCap w (0 + (m + 1)) 0 el - (0 + (m + 1)))).toList) H hNr' (by rw [hnl]; congr 1; omega)
        (by rw [List.length_append, hzlen, ← hNr'.1, hnl, ← Nat.add_mul]; congr 1; omega) hge h2' hh
      refine ⟨_, _, _, hrun, Mu.le_upd _ H.fresh, f1, ?_, f3⟩
      have : (#[] ++ NEW' ++ Builtin.zeroCells z.cells (grownCap w (0 + (m + 1)) 0 el - (0 + (m + 1)))) = (NEW'.toList ++ (Builtin.zeroCells z.cells (grownCap w (0 + (m + 1)) 0 el - (0 + (m + 1)))).toList).toArray := by
        apply Array.ext'; simp
      rw [this]; exact f2
    rcases hpn with ⟨rfl, rfl, h0⟩ | ⟨a, A, rfl, rfl, hsl⟩
    · simp [lR] at hgt
      exact fresh0 (by omega) h0 hgt.symm (by simp [Builtin.firstCells])
    · cases hab : a.block with
      | zero =>
        have hab' : a.block = 0 := hab
        simp only [lR, hab, Option.some.injEq] at hgt
        have hC0 : CAP = 0 := by
          rcases hsl with ⟨_, q⟩ | ⟨q, _⟩
          · exact q
          · exact absurd hab' q
        have hl0 : len = 0 := by omega
        refine fresh0 hl0 hC0 hgt.symm ?_
        subst hl0
        simp [Builtin.firstCells, loadCells, loadCellsFrom]
      | succ r =>
        simp only [lR, hab] at hgt
        obtain ⟨hsp, hgr⟩ := aq hgt
        obtain ⟨⟨cells, esz⟩, hrow, hg2⟩ := ab hgr
        obtain ⟨hes, hg3⟩ := aq hg2
        obtain ⟨old, hold, hg4⟩ := ab hg3
        simp at hg4
        obtain ⟨ob, hob, hor⟩ := ab hrow
        obtain rfl := qW hor
        dsimp only at hes hold hob
        have hes := Nat.eq_of_beq_eq_true hes
        subst hes
        obtain ⟨o1, o2⟩ := u1 hold
        have hspot : a.spot = some i.size := by
          unfold Az at hsp
          split at hsp
          · rename_i t ht; rw [ht, Nat.eq_of_beq_eq_true hsp]
          · simp at hsp
        obtain ⟨e, he⟩ : ∃ e, μ a.block = some e := by
          rcases hsl with ⟨q, _⟩ | ⟨_, e, he, _⟩
          · omega
          · exact ⟨e, he⟩
        have hlc' : h2'.next = h.next + 1 := by rw [← hg4]; rfl
        by_cases hroom : len + (m + 1) ≤ CAP
        · -- in place
          obtain ⟨s1, s2, s3, s4⟩ : A.spot = none ∧ A.block = e.blk ∧ A.off = e.base + a.off ∧ (i.size = e.esz ∧ a.off + CAP * i.size ≤ e.lim) := by
            rcases hsl with ⟨q, _⟩ | ⟨_, e', he', q⟩
            · omega
            · rw [he] at he'; cases he'
              rcases q with ⟨s1, s2, s3, s4⟩ | q
              · exact ⟨s1, s2, s3, s4 i.size hspot⟩
              · omega
          obtain ⟨X0, el0, fz, x1, x2, x3, x4, x5, x6⟩ := H.obj a.block e _ he hob
          obtain ⟨hge0, hnf⟩ := x6 rfl
          have hA : A.add (len * i.size) = ⟨e.blk, e.base + a.off + len * i.size, none⟩ := by rw [eG s1, s2, s3]
          have hNl : NEW.toList.length = (m + 1) * i.size := by rw [← hNr.1, hnl]
          have hmul : (len + (m + 1)) * i.size ≤ CAP * i.size := Nat.mul_le_mul_right _ hroom
          have hsum : (len + (m + 1)) * i.size = len * i.size + (m + 1) * i.size := Nat.add_mul ..
          have hst := iv (P := C.P) e.blk (e.base + a.off + len * i.size) el0 fz NEW.toList 0 X0 w x1 hnf (by omega) (hNr.oneCell hone)
          rw [← hA] at hst
          have hrun := room hroom NEW _ hN hst
          have T := Turned.setRow (w := w) (cs := (X0.toList.take (e.base + a.off + len * i.size + 0) ++ NEW.toList ++ X0.toList.drop (e.base + a.off + len * i.size + 0 + NEW.toList.length)).toArray) x1
          have H1 := H.turned (o' := .dead) he hob rfl rfl T trivial
          have H2 := H1.allocA (.row (old ++ new) i.size true)
          have hfr : μ h.next = none := H.fresh
          have hX0 : X0.toList.length = X0.size := Array.length_toList
          have hsz0 : (X0.toList.take (e.base + a.off + len * i.size + 0) ++ NEW.toList ++ X0.toList.drop (e.base + a.off + len * i.size + 0 + NEW.toList.length)).length = X0.size := by
            simp only [List.length_append, List.length_take, List.length_drop]; omega
          have hlen2 : (old ++ new).length = len * i.size + (m + 1) * i.size := by rw [List.length_append, o2, hnl]
          refine ⟨.slice (some A) (len + (m + 1)) CAP, _, μ.upd h.next ⟨e.blk, e.base + a.off, e.lim - a.off, i.size⟩, hrun, Mu.le_upd _ hfr, Fresh.upd μ _ (Nat.le_refl _), ?_, ?_⟩
          · rw [← hg4]
            refine H2.adopt (i := h.next) (o := .row (old ++ new) i.size true) ⟨e.blk, e.base + a.off, e.lim - a.off, i.size⟩ hfr (by omega) (by simp) (Heap.get_alloc_self _ _) ?_ ?_
            · intro j f p hj hp hl
              have hjn : j ≠ h.next := by intro q; rw [q, hfr] at hj; simp at hj
              rw [Heap.get_alloc_ne (h.set a.block .dead) _ (show j ≠ (h.set a.block .dead).next from hjn), Heap.get_set] at hp
              by_cases hja : j = a.block
              · rw [if_pos hja] at hp; cases hp; simp [AObj.live] at hl
              · rw [if_neg hja] at hp
                exact fun q => H.inj a.block j e f _ p (fun q => hja q.symm) he hj hob hp rfl hl q.symm
            · dsimp only
              rw [T.here]
              refine ⟨_, el0, fz, rfl, by simp only [List.size_toArray, hsz0]; omega, by rw [hlen2]; dsimp only; omega, rfl, ?_, fun _ => ⟨hge0, fun i hi => ?_⟩⟩
              · dsimp only
                have := Qa X0.toList NEW.toList (X0.toList.drop (e.base + a.off + len * i.size + 0 + NEW.toList.length)) (e.base + a.off) (len * i.size) (by omega)
                rw [hlen2, ← hNl]
                simp only [Nat.add_zero] at this ⊢
                rw [this]
                refine VRels.append ?_ (hNr.mono (Mu.le_upd _ hfr))
                have h3 : VRels μ old ((((X0.toList.drop e.base).take cells.length).drop a.off).take (len * i.size)) := by rw [o1]; exact (x5.drop _).take _
                have h4 : (((X0.toList.drop e.base).take cells.length).drop a.off).take (len * i.size) = (X0.toList.drop (e.base + a.off)).take (len * i.size) := by
                  rw [List.drop_take, List.take_take, List.drop_drop]
                  congr 1
                  have : (old.length) ≤ cells.length - a.off := by rw [o1]; simp; omega
                  rw [o2] at this; omega
                rw [h4] at h3
                exact h3.mono (Mu.le_upd _ hfr)
              · simp only [List.size_toArray, hsz0] at hi
                exact hnf i hi
          · refine .slice _ _ _ _ _ (by omega) (by omega) (.inr ⟨by dsimp only; omega, _, Mu.upd_self _ _ _, .inl ⟨s1, s2, by dsimp only; omega, fun s hs => ?_⟩⟩)
            simp at hs; subst hs
            exact ⟨rfl, by dsimp only; omega⟩
        · -- a new block
          have hsc : bf h i.size len (.slice (some a) len cap) = some old := by
            cases len with
            | zero => simp only [bf]; simp at o2; rw [o2]
            | succ len =>
              simp only [bf, rowAt, hob, au, Dh]
              exact hold
          obtain ⟨OLD, hO, hOr⟩ := eW (C := C) Hd (.inl rfl) hs hsc
          have hrun := grow (by omega) hb2 hb1 OLD NEW' hO hN'
          have Hk := H.kill a.block
          obtain ⟨e2, f1, f2, f3⟩ := HG (h := h.set a.block .dead) (el := el) (s := i.size) (len := len + (m + 1)) (CAP := grownCap w (len + (m + 1)) CAP el)
            (REST := (Builtin.zeroCells z.cells (grownCap w (len + (m + 1)) CAP el - (len + (m + 1)))).toList) Hk (hOr.append hNr') (by rw [List.length_append, o2, hnl, ← Nat.add_mul])
            (by rw [List.length_append, hzlen, ← (hOr.append hNr').1, List.length_append, o2, hnl, ← Nat.add_mul, ← Nat.add_mul]; congr 1; omega) hge h2' hg4.symm
          refine ⟨_, _, _, hrun, Mu.le_upd _ H.fresh, f1, ?_, f3⟩
          have : (OLD ++ NEW' ++ Builtin.zeroCells z.cells (grownCap w (len + (m + 1)) CAP el - (len + (m + 1)))) = ((OLD.toList ++ NEW'.toList) ++ (Builtin.zeroCells z.cells (grownCap w (len + (m + 1)) CAP el - (len + (m + 1)))).toList).toArray := by
            apply Array.ext'; simp
          rw [this]; exact f2
end
end Go.Am

namespace Go.Am
open Go
theorem yX {x y:Value} (h:dH x y=some true) (n:Nat):Instr.sameBits n y x=true:=by
 cases x with
 |bool a=>
  cases y<;>simp only[dH,reduceCtorEq]at h
  rename_i b
  have:a=b:=by simpa using h
  subst this;cases n<;>simp[Instr.sameBits]
 |int k a=>
  cases y<;>simp only[dH,reduceCtorEq]at h
  rename_i j b
  split at h
  ·rename_i hk
   subst hk
   have:a=b:=by simpa using h
   subst this;cases n<;>simp[Instr.sameBits]
  ·simp at h
 |string a=>
  cases y<;>simp only[dH,reduceCtorEq]at h
  rename_i b
  rw[sH]at h
  have e:(a==b)=(a.data==b.data):=rfl
  have:a=b:=by
   rw[e]at h
   exact ByteArray.ext (by simpa using h)
  subst this
  have e2:(a==a)=true:=by
   have:(a==a)=(a.data==a.data):=rfl
   rw[this];simp
  cases n<;>simp[Instr.sameBits,e2]
 |_=>simp[dH]at h
theorem E8 {l:List Value}: ∀{m:List Value},bP l m=some true ->m.length=l.length/\ ∀n,((m.zip l).all fun p=>Instr.sameBits n p.1 p.2)=true:=by
 induction l with
 |nil=>
  intro m h
  cases m with
  |nil=>exact⟨rfl,fun _=>rfl⟩
  |cons y m=>simp[bP,cU]at h
 |cons x l ih=>
  intro m h
  cases m with
  |nil=>simp[bP,nU]at h
  |cons y m=>
   rw[vT]at h
   cases hc:dH x y with
   |none=>rw[hc]at h;simp at h
   |some b=>
    rw[hc]at h
    cases b with
    |false=>simp at h
    |true=>
     obtain⟨h1,h2⟩:=ih h
     exact⟨by simp[h1],fun n=>by simp only[List.zip_cons_cons,List.all_cons,h2 n,yX hc n,Bool.and_self]⟩
theorem Jz {k y:Value} (h:nW k y=some true):Instr.sameBits 10000 y k=true:=by
 by_cases ha: ∃xs ys,k= .agg xs/\ y= .agg ys
 ·obtain⟨xs,ys,rfl,rfl⟩:=ha
  obtain⟨_,h⟩:=aq (show aX (cW xs.toList ys.toList) (bP xs.toList ys.toList)=some true from h)
  obtain⟨h1,h2⟩:=E8 h
  have:Instr.sameBits (9999+1) (.agg ys) (.agg xs)=true:=by
   simp only[Instr.sameBits,Bool.and_eq_true,beq_iff_eq]
   refine⟨by simpa using h1,?_⟩
   have:=h2 9999
   simpa using this
  exact this
 ·have:dH k y=some true:=by
   cases k<;>cases y<;>first|exact h|(exact absurd ⟨_,_,rfl,rfl⟩ ha)|(simp[nW,dH]at h;done)
  exact yX this 10000
theorem CI (e:MapEntry) (es:List MapEntry) (k v:Value) (i:Nat):jk (e::es) k v i=(match i with|0=>{key:=k,val:=v,born:=e.born}::es|j+1=>e::jk es k v j):=by
 cases i<;>rfl
theorem va (es:List MapEntry) (k v:Value): ∀(i j:Nat),(jk es k v i).length=es.length/\
  (jk es k v i)[j]? =if j=i then(es[j]?).map (fun e=>{key:=k,val:=v,born:=e.born})else es[j]? :=by
 induction es with
 |nil=>intro i j;exact⟨rfl,by simp[jk,cU]⟩
 |cons e es ih=>
  intro i j
  rw[CI]
  cases i with
  |zero=>cases j<;>simp
  |succ i=>
   cases j with
   |zero=>exact⟨by simp[(ih i 0).1],by simp⟩
   |succ j=>exact⟨by simp[(ih i j).1],by simpa using(ih i j).2⟩
section
variable {C:Ctx} (hC:C.Ok0) {good:Code ->Prop} {w0:World} {μ:Mu} {h:Heap} {w:World}
def zA:Obj ->Bool
 | .cells _ _ _=>false
 |_=>true
theorem im {P:Program} {w:World} {b:Nat} {o:Obj} (hn:zA o=true) (hb:w.heap[b]? =some o):(getObj b).run P w= .ok o w:=by
 cases o<;>first|(simp[zA]at hn;done)|simp[getObj,Sem.run,hb]
theorem ic {P:Program} {w:World} {b:Nat} {o O:Obj} (hn:zA O=true) (hb:w.heap[b]? =some O):(setObj b o).run P w= .ok () {w with heap:=w.heap.setIfInBounds b o}:=by
 cases O<;>first|(simp[zA]at hn;done)|(simp only[setObj,Sem.run,hb])
theorem Ds (H:HRel good w0 μ h w) {m M:Value} {r c:Nat} {es:List MapEntry} (hm:VRel μ m M) (he:Dt h m=some (r,es,c)):
  ∃e ES,m= .map (some r)/\ M= .map (some e.blk)/\ μ r=some e/\ h.get r=some (.map es c)/\ w.heap[e.blk]? =some (.map ES c)/\ ERels μ es ES.toList/\ w0.heap.size<=e.blk:=by
 unfold Dt at he
 split at he
 ·rename_i r'
  obtain⟨x,hx,h1⟩:=ab he
  obtain⟨o,ho,h2⟩:=ab hx
  simp at h1
  obtain⟨rfl,rfl⟩:=h1
  have:o= .map es c:=by
   unfold Bm at h2;split at h2
   ·simp at h2;obtain⟨rfl,rfl⟩:=h2;rfl
   ·simp at h2
  subst this
  cases hm with
  |map r e hr=>
   obtain⟨hge,ES,h3,h4⟩:=H.obj r' e _ hr ho
   exact⟨e,ES,rfl,rfl,hr,ho,h3,h4,hge⟩
  |plain v hp=>simp[aU]at hp
 ·simp at he
theorem ERels.push {es ES:List MapEntry} (h:ERels μ es ES) {k v V:Value} {c:Nat} (hv:VRel μ v V):ERels μ (es++[{key:=k,val:=v,born:=c}]) (ES++[{key:=k,val:=V,born:=c}]):=by
 refine⟨by simp[h.1],fun i e E a b=> ?_⟩
 rw[List.getElem?_append]at a b
 rw[h.1]at a
 split at a
 ·rename_i hl;rw[if_pos hl]at b;exact h.2 i e E a b
 ·rename_i hl
  rw[if_neg hl]at b
  cases hi:i -ES.length with
  |zero=>rw[hi]at a b;simp at a b;subst a;subst b;exact⟨rfl,rfl,hv⟩
  |succ n=>rw[hi]at a;simp at a
theorem ERels.erase {es ES:List MapEntry} (h:ERels μ es ES) (n:Nat):ERels μ (es.eraseIdx n) (ES.eraseIdx n):=by
 refine⟨by simp[List.length_eraseIdx,h.1],fun i e E a b=> ?_⟩
 rw[List.getElem?_eraseIdx]at a b
 split at a
 ·rename_i hl;rw[if_pos hl]at b;exact h.2 i e E a b
 ·rename_i hl;rw[if_neg hl]at b;exact h.2 (i+1) e E a b
theorem ERels.put {es ES:List MapEntry} (h:ERels μ es ES) {k v V:Value} {n:Nat} (hv:VRel μ v V):ERels μ (jk es k v n) (ES.modify n fun e=>{e with key:=k,val:=V}):=by
 refine⟨by rw[(va es k v n 0).1];simp[h.1],fun i e E a b=> ?_⟩
 rw[(va es k v n i).2]at a
 rw[List.getElem?_modify]at b
 by_cases hi:i=n
 ·subst hi
  simp at a b
  obtain⟨e',he',rfl⟩:=a
  obtain⟨E',hE',rfl⟩:=b
  exact⟨rfl,(h.2 i e' E' he' hE').2.1,hv⟩
 ·rw[if_neg hi]at a
  have: ¬n=i:=fun q=>hi q.symm
  simp[this]at b
  exact h.2 i e E a b
include hC
theorem tH (H:HRel good w0 μ h w) {t:TypeId} {m M k K v V:Value} {h':Heap} (hm:VRel μ m M) (hk:VRel μ k K) (hv:VRel μ v V) (hu:dK C t m k v h=some h'):
  ∃w',(Instr.mapUpdate t M K V).run C.P w= .ok () w'/\ HRel good w0 μ h' w'/\ h'.next=h.next:=by
 obtain⟨d,hd,h1⟩:=ab hu
 obtain⟨⟨kt,et⟩,hq,h2⟩:=ab h1
 obtain⟨hf,h3⟩:=aq h2
 obtain⟨⟨r,es,c⟩,hx,h4⟩:=ab h3
 obtain⟨fr,hfr,h5⟩:=ab h4
 cases d<;>simp[jo]at hq
 obtain⟨rfl,rfl⟩:=hq
 obtain⟨e,ES,rfl,rfl,hr,ho,hb,hER,hge⟩:=Ds H hm hx
 obtain⟨rfl,hck,R,hR,hF⟩:=zD (w:=w) hC hf hk hER hfr
 unfold Instr.mapUpdate
 simp only[Sem.run_bind,bE hC hd,Result.andThen_ok,im rfl hb,hck,hR]
 cases fr with
 |none=>
  have hF:R=none:=hF
  subst hF
  simp[qT]at h5
  subst h5
  simp only[ic rfl hb]
  refine⟨_,rfl,H.turned hr ho rfl rfl (Turned.setObj hb) ⟨hge,_,rfl,?_⟩,rfl⟩
  simpa using hER.push hv
 |some q=>
  obtain⟨n,ee,E,e1,e2,e3,e4,rfl,e5⟩:=hF
  simp[qT]at h5
  subst h5
  have hES:ES[q.1]? =some E:=by rw[e1,Nat.zero_add];simpa using e3
  have hkey:((Option.map (fun x=>x.key) ES[q.1]?).getD K)=ee.key:=by rw[hES];exact(hER.2 n ee E e2 e3).1
  have hsame:(Instr.keyThatStays ee.key K).run C.P w= .ok K w:=by simp[Instr.keyThatStays,Jz e5]
  simp only[Sem.run_bind,hkey,hsame,Result.andThen_ok,ic rfl hb]
  refine⟨_,rfl,H.turned hr ho rfl rfl (Turned.setObj hb) ⟨hge,_,rfl,?_⟩,rfl⟩
  simpa using hER.put (n:=q.1) hv
theorem J4 (H:HRel good w0 μ h w) {ts:Array TypeId} {ty t:TypeId} {m M k K:Value} {h':Heap} {ARGS:Array Value} (hT:ts[0]? =some t) (hS:ARGS[0]? =some M) (hX:ARGS[1]? =some K) (hm:VRel μ m M) (hk:VRel μ k K)
  (hu:zP C t m k h=some h'):
  ∃w',(Builtin.delete_ ts ty ARGS).run C.P w= .ok (.tuple #[]) w'/\ HRel good w0 μ h' w'/\ h'.next=h.next:=by
 obtain⟨d,hd,h1⟩:=ab hu
 obtain⟨⟨kt,et⟩,hq,h2⟩:=ab h1
 obtain⟨hf,h3⟩:=aq h2
 obtain⟨⟨r,es,c⟩,hx,h4⟩:=ab h3
 obtain⟨fr,hfr,h5⟩:=ab h4
 cases d<;>simp[jo]at hq
 obtain⟨rfl,rfl⟩:=hq
 obtain⟨e,ES,rfl,rfl,hr,ho,hb,hER,hge⟩:=Ds H hm hx
 obtain⟨rfl,hck,R,hR,hF⟩:=zD (w:=w) hC hf hk hER hfr
 unfold Builtin.delete_
 simp only[hT,hS,hX,Sem.run_bind,bE hC hd,Result.andThen_ok,im rfl hb,hck,hR]
 cases fr with
 |none=>
  have hF:R=none:=hF
  subst hF
  simp[yg]at h5
  subst h5
  simp only[Sem.run_bind,ic rfl hb,Result.andThen_ok,Sem.run_pure]
  exact⟨_,rfl,H.turned hr ho rfl rfl (Turned.setObj hb) ⟨hge,_,rfl,hER⟩,rfl⟩
 |some q=>
  obtain⟨n,ee,E,e1,e2,e3,e4,rfl,e5⟩:=hF
  simp[yg]at h5
  subst h5
  simp only[Sem.run_bind,ic rfl hb,Result.andThen_ok,Sem.run_pure]
  refine⟨_,rfl,H.turned hr ho rfl rfl (Turned.setObj hb) ⟨hge,_,rfl,?_⟩,rfl⟩
  have hlt:q.1<ES.size:=by
   have:=(List.getElem?_eq_some_iff.1 e3).1
   rw[e1];simpa using this
  have:(ES.eraseIdxIfInBounds q.1).toList=ES.toList.eraseIdx q.1:=by simp[Array.eraseIdxIfInBounds,hlt]
  rw[this]
  exact hER.erase q.1
theorem Tz (H:HRel good w0 μ h w) {ts:Array TypeId} {ty:TypeId} {d x D X v:Value} {h':Heap} {ARGS:Array Value} (hS:ARGS[0]? =some D) (hX:ARGS[1]? =some X) (hd:VRel μ d D) (hx:VRel μ x X)
  (ha:rQ C ts.toList d x h=some (v,h')):
  ∃w',(Builtin.copy_ ts ty ARGS).run C.P w= .ok v w'/\ HRel good w0 μ h' w'/\ h'.next=h.next/\ aU v=true:=by
 unfold rQ at ha
 split at ha
 case h_2=>simp at ha
 rename_i t rest hts
 have hT:ts[0]? =some t:=by rw[<-Array.getElem?_toList,hts];rfl
 obtain⟨dd,hdd,h1⟩:=ab ha
 obtain⟨el,hel,h2⟩:=ab h1
 obtain⟨s,hs,h3⟩:=ab h2
 obtain⟨⟨p,n,c⟩,hsl,h4⟩:=ab h3
 obtain⟨m,hm,h5⟩:=ab h4
 obtain⟨new,hnew,h6⟩:=ab h5
 cases dd<;>simp[dy]at hel
 subst hel
 have hd0:d= .slice p n c:=by
  unfold jQ at hsl;split at hsl
  ·simp at hsl;obtain⟨rfl,rfl,rfl⟩:=hsl;rfl
  ·simp at hsl
 subst hd0
 obtain⟨L,hL,hLr⟩:=eW (C:=C) H (.inr ⟨m,hm,Nat.min_le_left _ _⟩) hx hnew
 have hlen:=Bv (P:=C.P) (w:=w) hx hm
 unfold Builtin.copy_
 have zeroCase:new=[] ->h'=h/\ v= .int .i64 (Nat.min m n):=by
  rintro rfl
  simp[yh]at h6
  exact⟨h6.2.symm,h6.1.symm⟩
 cases p with
 |none=>
  obtain rfl:=hd.nilslice_inv
  cases new with
  |nil=>
   obtain⟨rfl,rfl⟩:=zeroCase rfl
   exact⟨w,by simp[hT,hS,hX,bE hC hdd,hlen,cE hC hs,hL,goInt],H,rfl,rfl⟩
  |cons b new=>simp[yh,Jk]at h6
 |some a=>
  obtain⟨A,CAP,rfl,hcc,hlc,hsl2⟩:=hd.slice_inv
  cases hnw:new with
  |nil=>
   obtain⟨rfl,rfl⟩:=zeroCase hnw
   have hL0:L.toList=[]:=by rw[hnw]at hLr;exact hLr.nil_inv
   exact⟨w,by simp[hT,hS,hX,bE hC hdd,hlen,cE hC hs,hL,hL0,goInt,storeCells],H,rfl,rfl⟩
  |cons b bs=>
   rw[hnw]at h6
   simp only[yh,au]at h6
   obtain⟨hone,h7⟩:=aq h6
   obtain⟨⟨cells,esz⟩,hr,h8⟩:=ab h7
   obtain⟨l,hl,h9⟩:=ab h8
   obtain⟨o,ho,hor⟩:=ab hr
   obtain rfl:=qW hor
   simp at h9
   obtain⟨rfl,rfl⟩:=h9
   have hn0:0<Nat.min m n:=by
    rcases Nat.eq_zero_or_pos (Nat.min m n)with h0|h0
    ·rw[h0]at hnew
     cases x with
     |slice p' n' c'=>
      cases p'<;>simp[bf]at hnew<;>simp[hnw]at hnew
     |string b'=>simp[bf,aA]at hnew;simp[hnw]at hnew
     |_=>simp[bf]at hnew
    ·exact h0
   have hn1:0<n:=Nat.lt_of_lt_of_le hn0 (Nat.min_le_right _ _)
   rcases hsl2 with⟨_,h0⟩|⟨hb0,e,he,⟨s1,s2,s3,_⟩|h0⟩
   ·omega
   ·have hA:A=⟨e.blk,e.base+a.off,none⟩:=by obtain⟨b,o,s⟩:=A;simp only at s1 s2 s3;subst s1;subst s2;subst s3;rfl
    subst hA
    rw[hnw]at hLr
    obtain⟨w',hw,hH⟩:=CZ (P:=C.P) H he ho hLr hone hl
    exact⟨w',by simp[hT,hS,hX,bE hC hdd,hlen,cE hC hs,hL,goInt,hw],hH,rfl,rfl⟩
   ·omega
end
section
variable {C:Ctx} (hC:C.Ok0) {good:Code ->Prop} {w0:World} {μ:Mu} {h:Heap} {w:World}
theorem QJ {P:Program} (H:HRel good w0 μ h w) {ty:TypeId} {x X v:Value} {h':Heap} (hx:VRel μ x X) (ha:T2 x h=some (v,h')):
  ∃V w',(Instr.next X true ty).run P w= .ok V w'/\ HRel good w0 μ h' w'/\ h'.next=h.next/\ VRel μ v V:=by
 obtain⟨a,hp,h01⟩:=ab ha
 obtain⟨h00,h1⟩:=aq h01
 have h0:=Nat.eq_of_beq_eq_true h00
 obtain⟨⟨s,pos⟩,hq,h2⟩:=ab h1
 obtain⟨o,ho,hit⟩:=ab hq
 obtain rfl:=lM hp
 have:o= .iter s pos:=by
  unfold Rj at hit;split at hit
  ·simp at hit;obtain⟨rfl,rfl⟩:=hit;rfl
  ·simp at hit
 subst this
 obtain⟨A,rfl,sp,e,he,e1,e2⟩:=hx.ptr_inv
 obtain⟨hge,hob,hbase⟩:=H.obj _ e _ he ho
 have hA:A=⟨e.blk,0,none⟩:=by obtain⟨b,o,s⟩:=A;simp only at sp e1 e2;subst sp;subst e1;rw[hbase,h0]at e2;simp at e2;subst e2;rfl
 subst hA
 have hsz:s.data.toList.length=s.size:=Array.length_toList
 simp only[Instr.next,Sem.run_bind,im rfl hob,Result.andThen_ok]
 rw[hsz]at h2
 cases hb:Nat.ble (pos+1) s.size with
 |false=>
  have hlt: ¬pos<s.size:=fun q=>by
   have:=Nat.ble_eq_true_of_le (show pos+1<=s.size from q)
   rw[hb]at this;simp at this
  rw[hb]at h2
  simp[Jn]at h2
  obtain⟨rfl,rfl⟩:=h2
  exact⟨_,w,by rw[if_neg hlt];rfl,H,rfl, .tup' (.cons (.plain _ rfl) .nil)⟩
 |true=>
  have hlt:pos<s.size:=Nat.le_of_ble_eq_true hb
  rw[hb]at h2
  simp[Jn]at h2
  obtain⟨rfl,rfl⟩:=h2
  refine⟨.tuple #[.bool true,goInt pos, .int .i32 (Utf8.decode s pos).1],{w with heap:=w.heap.setIfInBounds e.blk (.stringIter s (pos+(Utf8.decode s pos).2))},by rw[if_pos hlt];simp only[Sem.run_bind,ic rfl hob,Result.andThen_ok,Sem.run_pure],H.turned he ho rfl rfl (Turned.setObj hob) ⟨hge,rfl,hbase⟩,rfl,?_⟩
  exact .tup' (.cons (.plain _ rfl) (.cons (.plain _ rfl) (.cons (.plain _ rfl) .nil)))
include hC in
theorem Mv (H:HRel good w0 μ h w) {t:TypeId} {b:ByteArray} {d:TypeDesc} (hd:C.und t=some d) (hs:oe d=true):
  ∃V w' μ',(Instr.range t (.string b)).run C.P w= .ok V w'/\ μ.le μ'/\ Fresh h.next μ μ'/\ HRel good w0 μ' (h.alloc (.iter b 0)) w'/\ VRel μ' (yJ h.next) V:=by
 have hf:=H.fresh
 have hpos:=H.pos
 cases d<;>simp[oe]at hs
 refine⟨.pointer (some ⟨w.heap.size,0,none⟩),w.alloc (.stringIter b 0),μ.upd h.next ⟨w.heap.size,0,0,0⟩,by simp[Instr.range,bE hC hd],Mu.le_upd _ hf,Fresh.upd μ _ (Nat.le_refl _),?_,?_⟩
 ·exact(H.allocA (.iter b 0)).grew 0 0 hf (by omega) (by simp) (Heap.get_alloc_self _ _) (Grew.alloc w _) ⟨H.size,rfl,rfl⟩
 ·exact .ptr _ _ ⟨rfl,_,Mu.upd_self _ _ _,rfl,rfl⟩
end
end Go.Am
