/- The abstract machine, part 61: this program meets the machine's conditions; the document's examples. -/
import Derived.Test.YtfnllpibhjikgaaGreatDoorJD58
import Derived.Test.YtfnllpibhjikgaaGreatDoorJD60
import Derived.Test.YtfnllpibhjikgaaGreatDoorJDNW
import Derived.Test.YtfnllpibhjikgaaGreatDoorJDRa
import Derived.Test.YtfnllpibhjikgaaGreatDoorJDRb
import Derived.Test.YtfnllpibhjikgaaGreatDoorJDRc
import Derived.Test.YtfnllpibhjikgaaGreatDoorJDRd
import Derived.Test.YtfnllpibhjikgaaGreatDoorJDRe
import Derived.Test.YtfnllpibhjikgaaGreatDoorJDRf
import Derived.Test.YtfnllpibhjikgaaGreatDoorJDRg
set_option linter.unusedSimpArgs false
set_option linter.unusedVariables false
namespace Go.Am
open Go Go.Proofs
theorem all_at {α : Type} {a : Array α} {p : α → Bool} (h : a.toList.all p = true) {i : Nat} {x : α} (hx : a[i]? = some x) : p x = true := List.all_eq_true.1 h x (Array.mem_toList_iff.2 (Array.mem_of_getElem? hx))
theorem range_all {n : Nat} {p : Nat → Bool} (h : (List.range n).all p = true) {t : Nat} (ht : t < n) : p t = true := List.all_eq_true.1 h t (List.mem_range.2 ht)
theorem TT_at {t : Nat} {i : TypeInfo} (h : TT.get t = some i) : Tryz.prog.types[t]? = some i := NT.get_ofFn 9 _ t i h
theorem FT_at {f : Nat} {fn : Func} (h : FT.get f = some fn) : Tryz.prog.funcs[f]? = some fn := NT.get_ofFn 9 _ f fn h



theorem key_zero_letter_pair : CC.zero 333 = some (.agg ⟨[.int .i64 0, .int .i64 0]⟩) := by kernel_rfl
theorem key_zero_bench_end : CC.zero 356 = some (.agg ⟨[.int .i64 0, .int .i64 0]⟩) := by kernel_rfl
theorem key_zero_price_amount : CC.zero 451 = some (.agg ⟨[.int .i64 0, .int .i64 0, .int .i64 0, .int .i64 0, .bool false, .int .i64 0]⟩) := by kernel_rfl
theorem key_zero_coat_step : CC.zero 429 = some (.agg ⟨[.int .i64 0, .int .i64 0]⟩) := by kernel_rfl
theorem key_zero_tint_spot : CC.zero 419 = some (.agg ⟨[.int .i64 0, .int .i64 0]⟩) := by kernel_rfl
theorem key_zero_strip_names : CC.zero 261 = some (.agg ⟨[.bool false, .bool false, .bool false, .bool false, .bool false, .bool false]⟩) := by kernel_rfl
theorem eqTypes_at {t : Nat} (h : eqTypes t = true) : t = 333 ∨ t = 356 ∨ t = 451 ∨ t = 429 ∨ t = 419 ∨ t = 261 := by
  unfold eqTypes at h
  simp only [Bool.or_eq_true] at h
  rcases h with h | h | h | h | h | h
  · exact .inl (natBeq h)
  · exact .inr (.inl (natBeq h))
  · exact .inr (.inr (.inl (natBeq h)))
  · exact .inr (.inr (.inr (.inl (natBeq h))))
  · exact .inr (.inr (.inr (.inr (.inl (natBeq h)))))
  · exact .inr (.inr (.inr (.inr (.inr (natBeq h)))))
theorem info_of {P : Program} {t : TypeId} {i : TypeInfo} (h : P.types[t]? = some i) : P.info? t = some i := by
  have hlt := (Array.getElem?_eq_some_iff.1 h).1
  unfold Tables.info?
  rw [if_pos hlt]; exact h
theorem ok0 (A : Nat → Option Spec) : (Ctx.mk Tryz.prog FT TT eqTypes A).Ok0 where
  T := fun t i h => by
    show Tryz.prog.info? t = some i
    exact info_of (TT_at h)
  Z := fun t i z h hz hn => by
    have := all_at zeros_ok (TT_at h)
    unfold zeroOKB at this
    rw [hz] at this
    simpa [hn] using this
  S := fun t fs h f hf => by
    have ht : t < 488 := by
      obtain ⟨i, hi, _⟩ := obind_eq h
      have := (Array.getElem?_eq_some_iff.1 (TT_at hi)).1
      rwa [types_len] at this
    have := range_all fields_ok ht
    unfold fieldsOKB at this
    have h2 : CC.und t = some (.struct fs) := h
    rw [h2] at this
    have := List.all_eq_true.1 this f hf
    exact Option.isSome_iff_exists.1 this
  eq := fun t z h hz => by
    have hz : CC.zero t = some z := hz
    rcases eqTypes_at h with rfl | rfl | rfl | rfl | rfl | rfl
    · rw [key_zero_letter_pair] at hz; simp at hz; subst hz; exact spec_letter_pair
    · rw [key_zero_bench_end] at hz; simp at hz; subst hz; exact spec_bench_end
    · rw [key_zero_price_amount] at hz; simp at hz; subst hz; exact spec154
    · rw [key_zero_coat_step] at hz; simp at hz; subst hz; exact spec_coat_step
    · rw [key_zero_tint_spot] at hz; simp at hz; subst hz; exact spec_tint_spot
    · rw [key_zero_strip_names] at hz; simp at hz; subst hz; exact spec_strip_names


theorem goodF_at {A : Nat → Option Spec} {f : Nat} {fn : Func} (h : FT.get f = some fn) : Tryz.prog.funcs[f]? = some fn ∧ fn.name ≠ "runtime.NumGoroutine" ∧ ∀ c, fn.body = some c → goodCode (Ctx.mk Tryz.prog FT TT eqTypes A) drawOK c = true := by
  have h1 := FT_at h
  have := all_at funcs_ok h1
  rw [← goodF_eq A] at this
  unfold goodF at this
  obtain ⟨h2, h3⟩ := (Bool.and_eq_true _ _).mp this
  refine ⟨h1, by simpa using h2, fun c hc => ?_⟩
  rw [hc] at h3; exact h3

/-- a function that stands there, with a body -/
noncomputable def thereB (f : Nat) : Bool := match Tryz.prog.funcs[f]? with | some fn => !(fn.name == "runtime.NumGoroutine") && fn.body.isSome | none => false
theorem there_at {f : Nat} (h : thereB f = true) : ∃ fn, Tryz.prog.funcs[f]? = some fn ∧ fn.name ≠ "runtime.NumGoroutine" ∧ fn.body.isSome = true := by
  unfold thereB at h
  split at h
  · rename_i fn hfn
    obtain ⟨h2, h3⟩ := (Bool.and_eq_true _ _).mp h
    exact ⟨fn, hfn, by simpa using h2, h3⟩
  · simp at h

def CutAt (w : World) : Prop := (∃ m, w.cell? ⟨0, 0, none⟩ = some (.int .i64 m)) ∧ Lib.TabIs Tryz.prog w "internal/strconv.uint64pow10" .u64 Lib.pow10Tab
theorem CutAt.later {w0 w : World} (hm : CutAt w0) (ho : ∀ b, b < w0.heap.size → w.heap[b]? = w0.heap[b]?) : CutAt w := by
  obtain ⟨⟨m, hm⟩, ht⟩ := hm
  have h1 : 0 < w0.heap.size := by
    unfold World.cell? at hm
    rcases Nat.lt_or_ge 0 w0.heap.size with q | q
    · exact q
    · simp [Array.getElem?_eq_none q] at hm
  refine ⟨⟨m, ?_⟩, tab_old ht ho⟩
  unfold World.cell? at hm ⊢
  rw [ho 0 h1]; exact hm

/-- a context is met, if its specifications are -/
theorem ctx_ok {A : Nat → Option Spec} {w : World} (hA : ∀ f sp, A f = some sp → thereB f = true ∧ SpecOK (Ctx.mk Tryz.prog FT TT eqTypes A) drawOK w f sp) : (Ctx.mk Tryz.prog FT TT eqTypes A).Ok drawOK w where
  ok0 := ok0 A
  F := fun f fn h => goodF_at h
  A := fun f sp h => ⟨there_at (hA f sp h).1, (hA f sp h).2⟩
theorem CB_ok (w : World) : CB.Ok drawOK w := ctx_ok fun f sp h => by cases h

theorem lib_ok {C' : Ctx} (hP : C'.P = Tryz.prog) {gd : List Oper → Bool} {w : World} (hm : CutAt w) {f : Nat} {sp : Spec} (h : specs f = some sp) : thereB f = true ∧ SpecOK C' gd w f sp := by
  unfold specs at h
  split at h
  · rename_i e; cases h; rw [natBeq e]; exact ⟨by kernel_rfl, itoa_ok hP hm.2⟩
  · split at h
    · rename_i e; cases h; rw [natBeq e]; exact ⟨by kernel_rfl, split_ok hP hm.1⟩
    · split at h
      · rename_i e; cases h; rw [natBeq e]; exact ⟨by kernel_rfl, join_ok hP⟩
      · split at h
        · rename_i e; cases h; rw [natBeq e]; exact ⟨by kernel_rfl, index_ok hP⟩
        · split at h
          · rename_i e; cases h; rw [natBeq e]; exact ⟨by kernel_rfl, NB.note_ok hP CB_ok⟩
          · cases h
theorem C0_ok {w : World} (hm : CutAt w) : C0.Ok drawOK w := ctx_ok fun f sp h => lib_ok rfl hm h

/- THE EXAMPLES' DATA, once for all, in whatever memory -/
def muG : Mu := fun i => if 1 ≤ i ∧ i ≤ 6 then some ⟨i - 1, 0, 0, 0⟩ else none
theorem GRel_G {C : Ctx} (hP : C.P = Tryz.prog) : GRel C muG := by
  intro g hg
  rw [hP, globals_len] at hg
  refine ⟨⟨g, 0, 0, 0⟩, ?_, rfl, rfl⟩
  unfold muG
  rw [if_pos (by omega)]
  rfl
theorem muG_dom : ∀ i e, muG i = some e → i < 10 ∧ i ≠ 0 := fun i e h => by
  unfold muG at h
  split at h
  · omega
  · simp at h
theorem HRel_G (good : Code → Prop) (w : World) : HRel good w muG ⟨10, .nil⟩ w where
  os := rfl
  output := rfl
  size := Nat.le_refl _
  old := fun _ _ => rfl
  dom := muG_dom
  pos := by show 0 < 10; omega
  obj := fun i e o _ h => by simp [Heap.get, NT.get_nil] at h
  inj := fun i j e f o p _ _ _ h => by simp [Heap.get, NT.get_nil] at h

section
variable {C' : Ctx} (hP : C'.P = Tryz.prog) {gd : List Oper → Bool} {w0 : World} (hm : CutAt w0)
include hP hm
theorem closed0 {f : FuncId} {A R : List (Bool × DT)} {rest : Spec} (hr : runIs C0 1000000 f 10 A R = true) (h : SpecOK C' gd w0 f rest) : SpecOK C' gd w0 f (closedSpec A R rest) :=
  closed_ok (C := C0) hP hr h (fun w _ ho => C0_ok (hm.later ho)) muG_dom (by decide) (GRel_G rfl)

theorem benchBest_ok : SpecOK C' gd w0 109 benchBestSpec := (closed0 hP hm benchBest0_run noSpec_ok)
theorem benchCheck_ok : SpecOK C' gd w0 132 benchCheckSpec := (closed0 hP hm benchCheck0_run noSpec_ok)
theorem benchEnds_ok : SpecOK C' gd w0 108 benchEndsSpec := (closed0 hP hm benchEnds0_run noSpec_ok)
theorem coatFirst_ok : SpecOK C' gd w0 77 coatFirstSpec := (closed0 hP hm coatFirst0_run noSpec_ok)
theorem coatMend_ok : SpecOK C' gd w0 129 coatMendSpec := (closed0 hP hm coatMend0_run (closed0 hP hm coatMend1_run noSpec_ok))
theorem daybookown_ok : SpecOK C' gd w0 76 daybookownSpec := (closed0 hP hm daybookown0_run noSpec_ok)
theorem daybookparted_ok : SpecOK C' gd w0 55 daybookpartedSpec := (closed0 hP hm daybookparted0_run (closed0 hP hm daybookparted1_run (closed0 hP hm daybookparted2_run (closed0 hP hm daybookparted3_run (closed0 hP hm daybookparted4_run (closed0 hP hm daybookparted5_run (closed0 hP hm daybookparted6_run (closed0 hP hm daybookparted7_run (closed0 hP hm daybookparted8_run (closed0 hP hm daybookparted9_run (closed0 hP hm daybookparted10_run (closed0 hP hm daybookparted11_run (closed0 hP hm daybookparted12_run (closed0 hP hm daybookparted13_run (closed0 hP hm daybookparted14_run (closed0 hP hm daybookparted15_run (closed0 hP hm daybookparted16_run (closed0 hP hm daybookparted17_run (closed0 hP hm daybookparted18_run (closed0 hP hm daybookparted19_run (closed0 hP hm daybookparted20_run (closed0 hP hm daybookparted21_run (closed0 hP hm daybookparted22_run (closed0 hP hm daybookparted23_run (closed0 hP hm daybookparted24_run (closed0 hP hm daybookparted25_run (closed0 hP hm daybookparted26_run (closed0 hP hm daybookparted27_run (closed0 hP hm daybookparted28_run (closed0 hP hm daybookparted29_run (closed0 hP hm daybookparted30_run (closed0 hP hm daybookparted31_run (closed0 hP hm daybookparted32_run (closed0 hP hm daybookparted33_run (closed0 hP hm daybookparted34_run (closed0 hP hm daybookparted35_run (closed0 hP hm daybookparted36_run (closed0 hP hm daybookparted37_run (closed0 hP hm daybookparted38_run (closed0 hP hm daybookparted39_run (closed0 hP hm daybookparted40_run (closed0 hP hm daybookparted41_run (closed0 hP hm daybookparted42_run (closed0 hP hm daybookparted43_run (closed0 hP hm daybookparted44_run (closed0 hP hm daybookparted45_run (closed0 hP hm daybookparted46_run (closed0 hP hm daybookparted47_run (closed0 hP hm daybookparted48_run (closed0 hP hm daybookparted49_run noSpec_ok))))))))))))))))))))))))))))))))))))))))))))))))))
theorem letterRows_ok : SpecOK C' gd w0 196 letterRowsSpec := (closed0 hP hm letterRows0_run (closed0 hP hm letterRows1_run (closed0 hP hm letterRows2_run noSpec_ok)))
theorem letterSet_ok : SpecOK C' gd w0 101 letterSetSpec := (closed0 hP hm letterSet0_run (closed0 hP hm letterSet1_run noSpec_ok))
theorem priceCheck_ok : SpecOK C' gd w0 135 priceCheckSpec := (closed0 hP hm priceCheck0_run noSpec_ok)
theorem priceOwes_ok : SpecOK C' gd w0 111 priceOwesSpec := (closed0 hP hm priceOwes0_run noSpec_ok)
theorem priceSame_ok : SpecOK C' gd w0 112 priceSameSpec := (closed0 hP hm priceSame0_run noSpec_ok)
theorem stripBefore_ok : SpecOK C' gd w0 103 stripBeforeSpec := (closed0 hP hm stripBefore0_run (closed0 hP hm stripBefore1_run noSpec_ok))
theorem stripFirst_ok : SpecOK C' gd w0 102 stripFirstSpec := (closed0 hP hm stripFirst0_run (closed0 hP hm stripFirst1_run (closed0 hP hm stripFirst2_run noSpec_ok)))
theorem tintCheck_ok : SpecOK C' gd w0 133 tintCheckSpec := (closed0 hP hm tintCheck0_run noSpec_ok)
theorem tintWord_ok : SpecOK C' gd w0 104 tintWordSpec := (closed0 hP hm tintWord0_run (closed0 hP hm tintWord1_run (closed0 hP hm tintWord2_run (closed0 hP hm tintWord3_run noSpec_ok))))
theorem data_ok {f : Nat} {sp : Spec} (h : specs1 f = some sp) : thereB f = true ∧ SpecOK C' gd w0 f sp := by
  unfold specs1 at h
  split at h
  · rename_i e; cases h; rw [natBeq e]; exact ⟨by kernel_rfl, benchBest_ok hP hm⟩
  · skip
    split at h
    · rename_i e; cases h; rw [natBeq e]; exact ⟨by kernel_rfl, benchCheck_ok hP hm⟩
    · skip
      split at h
      · rename_i e; cases h; rw [natBeq e]; exact ⟨by kernel_rfl, benchEnds_ok hP hm⟩
      · skip
        split at h
        · rename_i e; cases h; rw [natBeq e]; exact ⟨by kernel_rfl, coatFirst_ok hP hm⟩
        · skip
          split at h
          · rename_i e; cases h; rw [natBeq e]; exact ⟨by kernel_rfl, coatMend_ok hP hm⟩
          · skip
            split at h
            · rename_i e; cases h; rw [natBeq e]; exact ⟨by kernel_rfl, daybookown_ok hP hm⟩
            · skip
              split at h
              · rename_i e; cases h; rw [natBeq e]; exact ⟨by kernel_rfl, daybookparted_ok hP hm⟩
              · skip
                split at h
                · rename_i e; cases h; rw [natBeq e]; exact ⟨by kernel_rfl, letterRows_ok hP hm⟩
                · skip
                  split at h
                  · rename_i e; cases h; rw [natBeq e]; exact ⟨by kernel_rfl, letterSet_ok hP hm⟩
                  · skip
                    split at h
                    · rename_i e; cases h; rw [natBeq e]; exact ⟨by kernel_rfl, priceCheck_ok hP hm⟩
                    · skip
                      split at h
                      · rename_i e; cases h; rw [natBeq e]; exact ⟨by kernel_rfl, priceOwes_ok hP hm⟩
                      · skip
                        split at h
                        · rename_i e; cases h; rw [natBeq e]; exact ⟨by kernel_rfl, priceSame_ok hP hm⟩
                        · skip
                          split at h
                          · rename_i e; cases h; rw [natBeq e]; exact ⟨by kernel_rfl, stripBefore_ok hP hm⟩
                          · skip
                            split at h
                            · rename_i e; cases h; rw [natBeq e]; exact ⟨by kernel_rfl, stripFirst_ok hP hm⟩
                            · skip
                              split at h
                              · rename_i e; cases h; rw [natBeq e]; exact ⟨by kernel_rfl, tintCheck_ok hP hm⟩
                              · skip
                                split at h
                                · rename_i e; cases h; rw [natBeq e]; exact ⟨by kernel_rfl, tintWord_ok hP hm⟩
                                · skip
                                  exact lib_ok hP hm h
end
theorem C1_ok {w : World} (hm : CutAt w) : C1.Ok drawOK w := ctx_ok fun f sp h => data_ok rfl hm h
section
variable {C' : Ctx} (hP : C'.P = Tryz.prog) {gd : List Oper → Bool} {w0 : World} (hm : CutAt w0)
include hP hm
theorem closed1 {f : FuncId} {A R : List (Bool × DT)} {rest : Spec} (hr : runIs C1 1000000 f 10 A R = true) (h : SpecOK C' gd w0 f rest) : SpecOK C' gd w0 f (closedSpec A R rest) :=
  closed_ok (C := C1) hP hr h (fun w _ ho => C1_ok (hm.later ho)) muG_dom (by decide) (GRel_G rfl)
theorem stands_ok : SpecOK C' gd w0 33 daybookstandsSpec := (closed1 hP hm daybookstands0_run (closed1 hP hm daybookstands1_run (closed1 hP hm daybookstands2_run (closed1 hP hm daybookstands3_run (closed1 hP hm daybookstands4_run (closed1 hP hm daybookstands5_run (closed1 hP hm daybookstands6_run (closed1 hP hm daybookstands7_run (closed1 hP hm daybookstands8_run (closed1 hP hm daybookstands9_run (closed1 hP hm daybookstands10_run (closed1 hP hm daybookstands11_run (closed1 hP hm daybookstands12_run (closed1 hP hm daybookstands13_run (closed1 hP hm daybookstands14_run (closed1 hP hm daybookstands15_run (closed1 hP hm daybookstands16_run (closed1 hP hm daybookstands17_run (closed1 hP hm daybookstands18_run (closed1 hP hm daybookstands19_run (closed1 hP hm daybookstands20_run (closed1 hP hm daybookstands21_run (closed1 hP hm daybookstands22_run (closed1 hP hm daybookstands23_run (closed1 hP hm daybookstands24_run (closed1 hP hm daybookstands25_run noSpec_ok))))))))))))))))))))))))))
end
theorem C2_ok {w : World} (hm : CutAt w) : C2.Ok drawOK w := ctx_ok fun f sp h => by
  have h : specs2 f = some sp := h
  unfold specs2 at h
  split at h
  · rename_i e; cases h; rw [natBeq e]; exact ⟨by kernel_rfl, stands_ok rfl hm⟩
  · exact data_ok rfl hm h
theorem C3_ok {w : World} (hm : CutAt w) : C3.Ok drawOK w := ctx_ok fun f sp h => by
  have h : specs3 f = some sp := h
  unfold specs3 at h
  split at h
  · rename_i e; cases h; rw [natBeq e]
    have two : ∀ {i A R rest}, runIs C2 1000000 16 10 A R = true → SpecOK (Ctx.mk Tryz.prog FT TT eqTypes specs3) drawOK w 16 rest → (i : Nat) = i → SpecOK (Ctx.mk Tryz.prog FT TT eqTypes specs3) drawOK w 16 (closedSpec A R rest) :=
      fun hr h _ => closed_ok (C := C2) (C' := Ctx.mk Tryz.prog FT TT eqTypes specs3) rfl hr h (fun w' _ ho => C2_ok (hm.later ho)) muG_dom (by decide) (GRel_G rfl)
    exact ⟨by kernel_rfl, two (i := 0) console0_run (two (i := 0) console1_run noSpec_ok rfl) rfl⟩
  · exact lib_ok rfl hm h

theorem isTrue_inv {x : Option FRes} (h : isTrue x = true) : ∃ h' p, x = some (.ret (.bool true) h' p) := by
  unfold isTrue at h
  split at h
  · exact ⟨_, _, rfl⟩
  · simp at h
/-- the examples, once for all -/
theorem known_run : isTrue (callF C3 (run C3 1000000) 6 [] ⟨10, .nil⟩) = true := by kernel_rfl
theorem known_ok {C' : Ctx} (hP : C'.P = Tryz.prog) {gd : List Oper → Bool} {w0 : World} (hm : CutAt w0) : SpecOK C' gd w0 6 knownSpec := by
  intro μ h w args ARGS res H _ hA hs
  unfold knownSpec at hs
  split at hs
  case h_2 => simp at hs
  simp at hs
  subst hs
  have hARGS : ARGS = #[] := Array.ext' (by simpa using hA.nil_inv)
  subst hARGS
  obtain ⟨h', p, hc⟩ := isTrue_inv known_run
  have hOk := C3_ok (hm.later H.old)
  rw [hP]
  refine (callF_sim hOk (run_ok hOk 1000000) hc (ARGS := #[]) .nil (HRel_G _ w) (GRel_G rfl)).2.mono ?_
  intro e w' hp
  cases e with
  | returned V =>
    obtain ⟨μ', _, _, _, HI, hv⟩ := hp
    rw [hv.bool_inv]
    exact ⟨μ, fun _ _ a => a, Fresh.refl _ _, Nat.le_refl _, H.below HI.os HI.output HI.size HI.old, .plain _ rfl⟩
  | panicked c => exact hp.elim
  | _ => exact hp.elim
theorem CC_ok {w : World} (hm : CutAt w) : CC.Ok drawOK w := ctx_ok fun f sp h => by
  have h : specsK f = some sp := h
  unfold specsK at h
  split at h
  · rename_i e; cases h; rw [natBeq e]; exact ⟨by kernel_rfl, known_ok rfl hm⟩
  · exact lib_ok rfl hm h
end Go.Am
