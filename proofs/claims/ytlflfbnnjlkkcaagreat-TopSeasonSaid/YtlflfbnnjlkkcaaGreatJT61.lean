/- The abstract machine, part 61: this program meets the machine's conditions; the document's examples. -/
import Derived.Test.YtlflfbnnjlkkcaaGreatJT37
import Derived.Test.YtlflfbnnjlkkcaaGreatJT60
import Derived.Test.YtlflfbnnjlkkcaaGreatJTNW
import Derived.Test.YtlflfbnnjlkkcaaGreatJTRa
import Derived.Test.YtlflfbnnjlkkcaaGreatJTRb
import Derived.Test.YtlflfbnnjlkkcaaGreatJTRc
import Derived.Test.YtlflfbnnjlkkcaaGreatJTRd
set_option linter.unusedSimpArgs false
set_option linter.unusedVariables false
set_option linter.defProp false
namespace Go.Am
open Go Go.Proofs
theorem all_at {α : Type} {a : Array α} {p : α → Bool} (h : a.toList.all p = true) {i : Nat} {x : α} (hx : a[i]? = some x) : p x = true := List.all_eq_true.1 h x (Array.mem_toList_iff.2 (Array.mem_of_getElem? hx))
theorem range_all {n : Nat} {p : Nat → Bool} (h : (List.range n).all p = true) {t : Nat} (ht : t < n) : p t = true := List.all_eq_true.1 h t (List.mem_range.2 ht)
theorem TT_at {t : Nat} {i : TypeInfo} (h : TT.get t = some i) : Tryz.prog.types[t]? = some i := NT.get_ofFn 9 _ t i h
theorem FT_at {f : Nat} {fn : Func} (h : FT.get f = some fn) : Tryz.prog.funcs[f]? = some fn := NT.get_ofFn 9 _ f fn h
theorem key_zero_letter_pair : CC.zero 221 = some (.agg ⟨[.int .i64 0, .int .i64 0]⟩) := by kernel_rfl
theorem key_zero_bench_end : CC.zero 285 = some (.agg ⟨[.int .i64 0, .int .i64 0]⟩) := by kernel_rfl
theorem key_zero_price_amount : CC.zero 353 = some (.agg ⟨[.int .i64 0, .int .i64 0, .int .i64 0, .int .i64 0, .bool false, .int .i64 0]⟩) := by kernel_rfl
theorem key_zero_coat_step : CC.zero 387 = some (.agg ⟨[.int .i64 0, .int .i64 0]⟩) := by kernel_rfl
theorem key_zero_tint_spot : CC.zero 344 = some (.agg ⟨[.int .i64 0, .int .i64 0]⟩) := by kernel_rfl
theorem key_zero_leaf_rest : CC.zero 428 = some (.agg ⟨[.int .i64 0, .int .i64 0, .int .i64 0]⟩) := by kernel_rfl
theorem eqTypes_at {t : Nat} (h : eqTypes t = true) : t = 221 ∨ t = 285 ∨ t = 353 ∨ t = 387 ∨ t = 344 ∨ t = 428 := by
  unfold eqTypes at h
  simp only [Bool.or_eq_true] at h
  rcases h with h | h | h | h | h | h
  · exact .inl (natBeq h)
  · exact .inr (.inl (natBeq h))
  · exact .inr (.inr (.inl (natBeq h)))
  · exact .inr (.inr (.inr (.inl (natBeq h))))
  · exact .inr (.inr (.inr (.inr (.inl (natBeq h)))))
  · exact .inr (.inr (.inr (.inr (.inr (natBeq h)))))
theorem info_of {P : Program} {t : TypeId} {i : TypeInfo} (h : P.types[t]? = some i) : P.info? t = some i := by
  have hlt := (Array.getElem?_eq_some_iff.1 h).1
  unfold Tables.info?
  rw [if_pos hlt]; exact h
theorem ok0 (A : Nat → Option Spec) : (Ctx.mk Tryz.prog FT TT eqTypes A).Ok0 where
  T := fun t i h => by
    show Tryz.prog.info? t = some i
    exact info_of (TT_at h)
  Z := fun t i z h hz hn => by
    have := all_at zeros_ok (TT_at h)
    unfold zeroOKB at this
    rw [hz] at this
    simpa [hn] using this
  S := fun t fs h f hf => by
    have ht : t < 463 := by
      obtain ⟨i, hi, _⟩ := obind_eq h
      have := (Array.getElem?_eq_some_iff.1 (TT_at hi)).1
      rwa [types_len] at this
    have := range_all fields_ok ht
    unfold fieldsOKB at this
    have h2 : CC.und t = some (.struct fs) := h
    rw [h2] at this
    have := List.all_eq_true.1 this f hf
    exact Option.isSome_iff_exists.1 this
  eq := fun t z h hz => by
    have hz : CC.zero t = some z := hz
    rcases eqTypes_at h with rfl | rfl | rfl | rfl | rfl | rfl
    · rw [key_zero_letter_pair] at hz; simp at hz; subst hz; exact spec_letter_pair
    · rw [key_zero_bench_end] at hz; simp at hz; subst hz; exact spec_bench_end
    · rw [key_zero_price_amount] at hz; simp at hz; subst hz; exact spec154
    · rw [key_zero_coat_step] at hz; simp at hz; subst hz; exact spec_coat_step
    · rw [key_zero_tint_spot] at hz; simp at hz; subst hz; exact spec_tint_spot
    · rw [key_zero_leaf_rest] at hz; simp at hz; subst hz; exact spec_leaf_rest
theorem goodF_at {A : Nat → Option Spec} {f : Nat} {fn : Func} (h : FT.get f = some fn) : Tryz.prog.funcs[f]? = some fn ∧ fn.name ≠ "runtime.NumGoroutine" ∧ ∀ c, fn.body = some c → goodCode (Ctx.mk Tryz.prog FT TT eqTypes A) drawOK c = true := by
  have h1 := FT_at h
  have := all_at funcs_ok h1
  rw [← goodF_eq A] at this
  unfold goodF at this
  obtain ⟨h2, h3⟩ := (Bool.and_eq_true _ _).mp this
  refine ⟨h1, by simpa using h2, fun c hc => ?_⟩
  rw [hc] at h3; exact h3
noncomputable def thereB (f : Nat) : Bool := match Tryz.prog.funcs[f]? with | some fn => !(fn.name == "runtime.NumGoroutine") && fn.body.isSome | none => false
theorem there_at {f : Nat} (h : thereB f = true) : ∃ fn, Tryz.prog.funcs[f]? = some fn ∧ fn.name ≠ "runtime.NumGoroutine" ∧ fn.body.isSome = true := by
  unfold thereB at h
  split at h
  · rename_i fn hfn
    obtain ⟨h2, h3⟩ := (Bool.and_eq_true _ _).mp h
    exact ⟨fn, hfn, by simpa using h2, h3⟩
  · simp at h
theorem ctx_ok {A : Nat → Option Spec} {w : World} (hA : ∀ f sp, A f = some sp → thereB f = true ∧ SpecOK (Ctx.mk Tryz.prog FT TT eqTypes A) drawOK w f sp) : (Ctx.mk Tryz.prog FT TT eqTypes A).Ok drawOK w where
  ok0 := ok0 A
  F := fun f fn h => goodF_at h
  A := fun f sp h => ⟨there_at (hA f sp h).1, (hA f sp h).2⟩
theorem isTrue_inv {x : Option FRes} (h : isTrue x = true) : ∃ h' p, x = some (.ret (.bool true) h' p) := by
  unfold isTrue at h
  split at h
  · exact ⟨_, _, rfl⟩
  · simp at h
theorem C0_ok (w : World) : C0.Ok drawOK w := ctx_ok fun f sp h => by cases h
def muG : Mu := fun _ => none
theorem GRel_G {C : Ctx} (hP : C.P = Tryz.prog) : GRel C muG := by
  intro g hg
  rw [hP, globals_len] at hg
  omega
theorem muG_dom : ∀ i e, muG i = some e → i < 10 ∧ i ≠ 0 := fun i e h => by simp [muG] at h
theorem HRel_G (good : Code → Prop) (w : World) : HRel good w muG ⟨10, .nil⟩ w where
  os := rfl
  output := rfl
  size := Nat.le_refl _
  old := fun _ _ => rfl
  dom := muG_dom
  pos := by show 0 < 10; omega
  obj := fun i e o _ h => by simp [Heap.get, NT.get_nil] at h
  inj := fun i j e f o p _ _ _ h => by simp [Heap.get, NT.get_nil] at h
section
variable {C' : Ctx} (hP : C'.P = Tryz.prog) {gd : List Oper → Bool} {w0 : World}
include hP
theorem closed0 {f : FuncId} {A R : List (Bool × DT)} {rest : Spec} (hr : runIs C0 1000000 f 10 A R = true) (h : SpecOK C' gd w0 f rest) : SpecOK C' gd w0 f (closedSpec A R rest) :=
  closed_ok (C := C0) hP hr h (fun w _ _ => C0_ok w) muG_dom (by decide) (GRel_G rfl)
theorem benchCheck_ok : SpecOK C' gd w0 84 benchCheckSpec := closed0 hP benchCheck0_run noSpec_ok
theorem letterRows_ok : SpecOK C' gd w0 195 letterRowsSpec := closed0 hP letterRows0_run noSpec_ok
theorem coatFirst_ok : SpecOK C' gd w0 10 coatFirstSpec := closed0 hP coatFirst0_run noSpec_ok
theorem stripFirst_ok : SpecOK C' gd w0 11 stripFirstSpec := closed0 hP stripFirst0_run noSpec_ok
theorem tintCheck_ok : SpecOK C' gd w0 13 tintCheckSpec := closed0 hP tintCheck0_run noSpec_ok
theorem repeat_ok : SpecOK C' gd w0 156 repeatSpec := closed0 hP repeat4_run (closed0 hP repeat2_run (closed0 hP repeat1_run noSpec_ok))
theorem benchBest_ok : SpecOK C' gd w0 12 benchBestSpec := closed0 hP benchBest0_run noSpec_ok
theorem benchEnds_ok : SpecOK C' gd w0 24 benchEndsSpec := closed0 hP benchEnds0_run noSpec_ok
theorem suite_ok : SpecOK C' gd w0 18 suiteSpec := closed0 hP suite_run noSpec_ok
theorem known_ok : SpecOK C' gd w0 7 knownSpec := by
  intro μ h w args ARGS res H _ hA hs
  unfold knownSpec at hs
  split at hs
  case h_2 => simp at hs
  simp at hs
  subst hs
  have hARGS : ARGS = #[] := Array.ext' (by simpa using hA.nil_inv)
  subst hARGS
  obtain ⟨h', p, hc⟩ := isTrue_inv known_run
  have hOk := C0_ok w
  rw [hP]
  refine (callF_sim hOk (run_ok hOk 1000000) hc (ARGS := #[]) .nil (HRel_G _ w) (GRel_G rfl)).2.mono ?_
  intro e w' hp
  cases e with
  | returned V =>
    obtain ⟨μ', _, _, _, HI, hv⟩ := hp
    rw [hv.bool_inv]
    exact ⟨μ, fun _ _ a => a, Fresh.refl _ _, Nat.le_refl _, H.below HI.os HI.output HI.size HI.old, .plain _ rfl⟩
  | panicked c => exact hp.elim
  | _ => exact hp.elim
end
theorem CC_ok (w : World) : CC.Ok drawOK w := ctx_ok fun f sp h => by
  have h : specs1 f = some sp := h
  unfold specs1 at h
  split at h
  · rename_i e; cases h; rw [natBeq e]; exact ⟨by kernel_rfl, known_ok rfl⟩
  · skip
    split at h
    · rename_i e; cases h; rw [natBeq e]; exact ⟨by kernel_rfl, suite_ok rfl⟩
    · skip
      split at h
      · rename_i e; cases h; rw [natBeq e]; exact ⟨by kernel_rfl, benchCheck_ok rfl⟩
      · skip
        split at h
        · rename_i e; cases h; rw [natBeq e]; exact ⟨by kernel_rfl, letterRows_ok rfl⟩
        · skip
          split at h
          · rename_i e; cases h; rw [natBeq e]; exact ⟨by kernel_rfl, coatFirst_ok rfl⟩
          · skip
            split at h
            · rename_i e; cases h; rw [natBeq e]; exact ⟨by kernel_rfl, stripFirst_ok rfl⟩
            · skip
              split at h
              · rename_i e; cases h; rw [natBeq e]; exact ⟨by kernel_rfl, tintCheck_ok rfl⟩
              · skip
                split at h
                · rename_i e; cases h; rw [natBeq e]; exact ⟨by kernel_rfl, repeat_ok rfl⟩
                · skip
                  split at h
                  · rename_i e; cases h; rw [natBeq e]; exact ⟨by kernel_rfl, benchBest_ok rfl⟩
                  · skip
                    split at h
                    · rename_i e; cases h; rw [natBeq e]; exact ⟨by kernel_rfl, benchEnds_ok rfl⟩
                    · skip
                      split at h
                      · rename_i e; cases h; rw [natBeq e]; exact ⟨by kernel_rfl, NB.note_ok rfl C0_ok⟩
                      · skip
                        cases h
end Go.Am
