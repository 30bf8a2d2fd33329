/- The abstract machine: a sheet of prices and a number come in. -/
import Derived.Test.YtlflfbnnjlkkcaaGreatJT62
import Derived.Test.YtlflfbnnjlkkcaaGreatJS13
import Derived.OpenShut
set_option linter.unusedSimpArgs false
set_option linter.unusedVariables false
set_option linter.defProp false
namespace Go.Am
open Go Go.Proofs Go.ChangeShapes Go.WideShapes Go.RowKit Go.Proofs.YtlflfbnnjlkkcaaGreat
section
variable {H : Type} {enc : TypeId × Value → H}
theorem kc_int : Tryz.prog.cellsOf 3 = 1 := by kernel_rfl
theorem kc_span : Tryz.prog.cellsOf 25 = 2 := by kernel_rfl
theorem kc_board : Tryz.prog.cellsOf 89 = 5 := by kernel_rfl
theorem kc_tar : Tryz.prog.cellsOf 166 = 5 := by kernel_rfl
theorem kc_kind : Tryz.prog.cellsOf 163 = 1 := by kernel_rfl
theorem kc_rule : Tryz.prog.cellsOf 164 = 1 := by kernel_rfl
theorem kc_bool : Tryz.prog.cellsOf 4 = 1 := by kernel_rfl
theorem kc_ints : Tryz.prog.cellsOf 22 = 1 := by kernel_rfl
theorem kc_boards : Tryz.prog.cellsOf 44 = 1 := by kernel_rfl
theorem kc_tars : Tryz.prog.cellsOf 45 = 1 := by kernel_rfl
theorem kc_sheet : Tryz.prog.cellsOf 47 = 3 := by kernel_rfl
theorem l3 {cs : List Value} (h : cs.length = 3) : ∃ a b c, cs = [a, b, c] := by
  match cs, h with
  | [a, b, c], _ => exact ⟨a, b, c, rfl⟩
theorem l5 {cs : List Value} (h : cs.length = 5) : ∃ a b c d e, cs = [a, b, c, d, e] := by
  match cs, h with
  | [a, b, c, d, e], _ => exact ⟨a, b, c, d, e, rfl⟩
section
variable {w : World} {base : Nat} {spare : Nat → Bool} {held : Bool} {fuel : Nat}
theorem bool_c {t : TypeId} (hu : Tryz.prog.underlying t = some .bool) {cs : List Value} {x : DataW H × List MemPlace} (h : DataW.trod enc Tryz.prog w base spare held fuel t cs = some x) : ∃ b : Bool, cs = [.bool b] := by
  obtain ⟨b, rfl, _⟩ := DataW.trod_bool hu h
  exact ⟨b, rfl⟩
theorem span_c {cs : List Value} {x : DataW H × List MemPlace} (h : DataW.trod enc Tryz.prog w base spare held fuel 25 cs = some x) : ∃ a b : Int, cs = [.int .i64 a, .int .i64 b] := by
  obtain ⟨xs, m, rfl, _, hl, hx, hf⟩ := DataW.trod_struct Tryz.underlying25 h
  rw [kc_span] at hl
  obtain ⟨a, b, rfl⟩ := len2 hl
  have hx2 : xs.length = 2 := hx
  match xs, hx2 with
  | [x0, x1], _ =>
    obtain ⟨p, hp⟩ := int_cells Tryz.underlying3 (fieldAt hf 0 3 0 1 x0 rfl kc_int rfl)
    obtain ⟨q, hq⟩ := int_cells Tryz.underlying3 (fieldAt hf 1 3 1 1 x1 rfl kc_int rfl)
    simp at hp hq
    exact ⟨p, q, by rw [hp, hq]⟩
theorem board_c {cs : List Value} {x : DataW H × List MemPlace} (h : DataW.trod enc Tryz.prog w base spare held fuel 89 cs = some x) : ∃ b : Board, cs = b.cells := by
  obtain ⟨xs, n, rfl, rfl, hl, hx, hf⟩ := DataW.trod_struct Tryz.underlying89 h
  rw [kc_board] at hl
  match xs, hx with
  | [x0, x1, x2, x3], _ =>
    have h0 := fieldAt hf 0 3 0 1 x0 rfl kc_int rfl
    have h1 := fieldAt hf 1 3 1 1 x1 rfl kc_int rfl
    have h2 := fieldAt hf 2 25 2 2 x2 rfl kc_span rfl
    have h3 := fieldAt hf 3 3 4 1 x3 rfl kc_int rfl
    obtain ⟨a, e0⟩ := int_cells Tryz.underlying3 h0
    obtain ⟨b, e1⟩ := int_cells Tryz.underlying3 h1
    obtain ⟨c, d, e2⟩ := span_c h2
    obtain ⟨e, e3⟩ := int_cells Tryz.underlying3 h3
    obtain ⟨y0, y1, y2, y3, y4, rfl⟩ := l5 hl
    clear h hf
    · simp at e0 e1 e2 e3
      exact ⟨⟨a, b, c, d, e⟩, by simp [Board.cells, e0, e1, e2, e3]⟩
theorem tar_c {cs : List Value} {x : DataW H × List MemPlace} (h : DataW.trod enc Tryz.prog w base spare held fuel 166 cs = some x) : ∃ b : Tar, cs = b.cells := by
  obtain ⟨xs, n, rfl, rfl, hl, hx, hf⟩ := DataW.trod_struct Tryz.underlying166 h
  rw [kc_tar] at hl
  match xs, hx with
  | [x0, x1, x2, x3, x4], _ =>
    have h0 := fieldAt hf 0 163 0 1 x0 rfl kc_kind rfl
    have h1 := fieldAt hf 1 3 1 1 x1 rfl kc_int rfl
    have h2 := fieldAt hf 2 3 2 1 x2 rfl kc_int rfl
    have h3 := fieldAt hf 3 164 3 1 x3 rfl kc_rule rfl
    have h4 := fieldAt hf 4 4 4 1 x4 rfl kc_bool rfl
    obtain ⟨a, e0⟩ := int_cells Tryz.underlying163 h0
    obtain ⟨b, e1⟩ := int_cells Tryz.underlying3 h1
    obtain ⟨c, e2⟩ := int_cells Tryz.underlying3 h2
    obtain ⟨d, e3⟩ := int_cells Tryz.underlying164 h3
    obtain ⟨e, e4⟩ := bool_c Tryz.underlying4 h4
    obtain ⟨y0, y1, y2, y3, y4, rfl⟩ := l5 hl
    clear h hf
    · simp at e0 e1 e2 e3 e4
      exact ⟨⟨a, b, c, d, e⟩, by simp [Tar.cells, e0, e1, e2, e3, e4]⟩
end
set_option maxRecDepth 100000 in
theorem psheet_in {w : World} {V : Value} {d : DataW H} {ps : List MemPlace} {base : Nat} (hok : Value.okWide Tryz.prog w .any base 47 V) (h : DataW.Trod enc Tryz.prog w 0 (fun _ => true) true 47 V d ps) :
    ∃ (A B C : Value) (s : Sheet), V = .agg ⟨[A, B, C]⟩ ∧ SliceIn w A s.offs ints 1 ∧ SliceIn w B s.boards Board.cells 5 ∧ SliceIn w C s.tars Tar.cells 5 := by
  obtain ⟨cs, rfl, hsz⟩ := okWide_struct Tryz.underlying47 hok
  rw [kc_sheet] at hsz
  obtain ⟨L⟩ := cs
  obtain ⟨A, B, C, rfl⟩ := l3 (show L.length = 3 from hsz)
  obtain ⟨n, h⟩ := h
  have h' : DataW.trod enc Tryz.prog w 0 (fun _ => true) true n 47 [A, B, C] = some (d, ps) := h
  clear h
  obtain ⟨xs, m, rfl, _, hl, hx, hf⟩ := DataW.trod_struct Tryz.underlying47 h'
  clear h'
  have hx3 : xs.length = 3 := hx
  match xs, hx3 with
  | [x0, x1, x2], _ =>
    have h0 := fieldAt hf 0 22 0 1 x0 rfl kc_ints rfl
    have h1 := fieldAt hf 1 44 1 1 x1 rfl kc_boards rfl
    have h2 := fieldAt hf 2 45 2 1 x2 rfl kc_tars rfl
    clear hf
    obtain ⟨o, ho⟩ := slice_in (V := A) (f := ints) Tryz.underlying22 kc_int (by decide) ints_len (fun n cs x h => int_cells Tryz.underlying3 h) h0
    obtain ⟨b, hb⟩ := slice_in (V := B) (f := Board.cells) Tryz.underlying44 kc_board (by decide) Board.len (fun n cs x h => board_c h) h1
    obtain ⟨t, ht⟩ := slice_in (V := C) (f := Tar.cells) Tryz.underlying45 kc_tar (by decide) Tar.len (fun n cs x h => tar_c h) h2
    exact ⟨A, B, C, ⟨o, b, t⟩, rfl, ho, hb, ht⟩
theorem rel3 {μ : Mu} {a b c A B C : Value} (h1 : VRel μ a A) (h2 : VRel μ b B) (h3 : VRel μ c C) : VRel μ (.agg ⟨[a, b, c]⟩) (.agg ⟨[A, B, C]⟩) :=
  have q : VRels μ [a, b, c] [A, B, C] := .cons h1 (.cons h2 (.cons h3 .nil))
  .agg _ _ q.1 q.2
set_option maxRecDepth 100000 in
theorem season_looks {W : World} {base : Nat} {args : Array Value} {ds : List (DataW H)} {ps : List MemPlace}
    (hval : ∀ (j : Nat) t v, [47, 3][j]? = some t → args[j]? = some v → Value.okWide Tryz.prog W .any base t v)
    (hA : DataW.TrodAll enc Tryz.prog W 0 (fun _ => true) true [47, 3] args.toList ds ps) : ds.length = 2 ∧ Calls Tryz.prog 5 args W (Looked W) := by
  obtain ⟨args⟩ := args
  obtain ⟨V0, vs1, d0, ds1, _, p1, rfl, rfl, _, h0, hA⟩ := trodAll_cons hA
  obtain ⟨V1, vs2, d1, ds2, _, p2, rfl, rfl, _, h1, hA⟩ := trodAll_cons hA
  obtain ⟨rfl, rfl, _⟩ := trodAll_nil hA
  refine ⟨rfl, ?_⟩
  obtain ⟨A, B, C, s, rfl, ha, hb, hc⟩ := psheet_in (hval 0 47 V0 rfl rfl) h0
  obtain ⟨n, rfl⟩ := okWide_int Tryz.underlying3 (hval 1 3 V1 rfl rfl)
  obtain ⟨μ1, k1, a, l1, S1, f1, v1, q1⟩ := start_slice (Start.zero (C := CC) rfl (goodP CC drawOK) W) ints_len ints_plain ha
  obtain ⟨μ2, k2, b, l2, S2, f2, v2, q2⟩ := start_slice S1 Board.len (fun _ => rfl) hb
  obtain ⟨μ3, k3, c, l3, S3, f3, v3, q3⟩ := start_slice S2 Tar.len (fun _ => rfl) hc
  exact looked_of S3 (args := [.agg ⟨[a, b, c]⟩, .int .i64 n]) (.cons (rel3 ((v1.mono l2).mono l3) (v2.mono l3) v3) (.cons (.plain _ rfl) .nil)) (season_law S3.ok S3.rel.pos ⟨(q1.fr S1.ok f2).fr S2.ok f3, q2.fr S2.ok f3, q3⟩)
end
end Go.Am
