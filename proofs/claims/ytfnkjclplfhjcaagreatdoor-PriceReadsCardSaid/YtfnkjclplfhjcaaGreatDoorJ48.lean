/- Parts 48, 49, 50, 51 of the abstract machine over this program, joined: what each part says stands at its head. -/
import Derived.Test.YtfnkjclplfhjcaaGreatDoorJ45
import Derived.Test.YtfnkjclplfhjcaaGreatDoorJ41
set_option linter.unusedSimpArgs false
set_option linter.unusedVariables false
/- The abstract machine, part 48: contracts: what a statement asks for. -/
namespace Go.Am
open Go Go.Proofs

def Sheet.short (s : Sheet) : Bool := decide ((s.offs.length : Int) ≤ 5 ∧ (s.boards.length : Int) ≤ 6 ∧ (s.tars.length : Int) ≤ 5)

theorem right_68 {h : Heap} (hk : HOK h) {a b c : Value} {s : Sheet} (hs : IsSheet h a b c s) :
    CW CC 68 [.agg ⟨[a, b, c]⟩] h fun r h' => r = .bool (s.short && s.ok) ∧ Fr h h' := by
  obtain ⟨p1, c1, rfl, _⟩ := hs.offs.open
  obtain ⟨p2, c2, rfl, _⟩ := hs.boards.open
  obtain ⟨p3, c3, rfl, _⟩ := hs.tars.open
  refine CW_in Tryz.f68 (by kernel_rfl) (by kernel_rfl) rfl rfl ?_
  simp only [Tryz.f68]
  have f1 : Fr h (h.alloc (.row [.slice p1 s.offs.length c1, .slice p2 s.boards.length c2, .slice p3 s.tars.length c3] 0 true)) := (Fr.refl hk).alloc _
  have r1 : rowAt (h.alloc (.row [.slice p1 s.offs.length c1, .slice p2 s.boards.length c2, .slice p3 s.tars.length c3] 0 true)) h.next = some [.slice p1 s.offs.length c1, .slice p2 s.boards.length c2, .slice p3 s.tars.length c3] := rowAt_new _ _ _ _
  obtain ⟨_, h2, e2, rfl, fr2⟩ := short_28 p1 p2 p3 s.offs.length c1 s.boards.length c2 s.tars.length c3 _ f1.ok
  have e2 : callF CC (Lim CC) 28 [.agg ⟨[.slice p1 s.offs.length c1, .slice p2 s.boards.length c2, .slice p3 s.tars.length c3]⟩] (h.alloc (.row [.slice p1 s.offs.length c1, .slice p2 s.boards.length c2, .slice p3 s.tars.length c3] 0 true)) = some (.ret (.bool s.short) h2 none) := e2
  have f2 := f1.trans fr2
  have r2 := fr2.row' f1.ok r1
  cases i1 : s.short with
  | false =>
    rw [i1] at e2
    simp (maxDischargeDepth := 30) only [AMS, AMH, ↓reduceIte, Nat.reduceLT, Nat.reduceEqDiff, Nat.reduceAdd, Nat.reduceMul, reduceCtorEq, decide_true, decide_false, Nat.reduceLeDiff, Int.reduceNe, Int.reduceEq, ne_eq, not_false_eq_true, and_self, ld_26, hk, e2]
    exact ⟨rfl, f2⟩
  | true =>
    rw [i1] at e2
    obtain ⟨_, h3, e3, rfl, fr3⟩ := sheet_32 f2.ok (hs.fr hk f2)
    simp (maxDischargeDepth := 30) only [AMS, AMH, ↓reduceIte, Nat.reduceLT, Nat.reduceEqDiff, Nat.reduceAdd, Nat.reduceMul, reduceCtorEq, decide_true, decide_false, Nat.reduceLeDiff, Int.reduceNe, Int.reduceEq, ne_eq, not_false_eq_true, and_self, ld_26, hk, e2, r2, e3]
    exact ⟨rfl, f2.trans fr3⟩

end Go.Am

/- The abstract machine, part 49: contracts: rounding. -/
namespace Go.Am
open Go Go.Proofs
def rDown (a b : Int) : Int := a / b
def rUp (a b : Int) : Int := (a + b - 1) / b
def rNear (a b : Int) : Int := (2 * a + b) / (2 * b)
def rEven (a b : Int) : Int := if 2 * a + b = 2 * b * rNear a b ∧ rNear a b % 2 = 1 then rNear a b - 1 else rNear a b

section
variable {a b : Int} (ha : 0 ≤ a) (ha' : a ≤ 1000000000) (hb : 1 ≤ b) (hb' : b ≤ 1000000) {h : Heap} (hk : HOK h)
include ha ha' hb hb' hk
end

def rnd (rule a b : Int) : Int := if rule = 0 then rDown a b else if rule = 1 then rUp a b else if rule = 2 then rNear a b else rEven a b

theorem place_137 {r : Int} (h1 : 1 ≤ r) (h2 : r ≤ 4) (h : Heap) : callF CC (Lim CC) 137 [.int .i64 r] h = some (.ret (.int .i64 (r - 1)) h none) := by
  refine CW.eq (CW_in Tryz.f137 (by kernel_rfl) (by kernel_rfl) rfl rfl ?_)
  simp only [Tryz.f137]
  simp (maxDischargeDepth := 30) only [AMS, AMH, ↓reduceIte, Nat.reduceLT, Nat.reduceEqDiff, Nat.reduceAdd, Nat.reduceMul, reduceCtorEq, decide_true, decide_false, Nat.reduceLeDiff, Int.reduceNe, Int.reduceEq, ne_eq, not_false_eq_true, and_self, L_nil, wrap64 (n := r - 1) (by omega) (by omega)]
end Go.Am

/- The abstract machine, part 50: contracts: kinds of tariffs, quantities. -/
namespace Go.Am
open Go Go.Proofs
theorem append_one {C : Ctx} {t u : TypeId} {ts : List TypeId} (ht : AppT C t u 1) {h0 h1 : Heap} {out v : Value} {l : List Value} {n : Nat} (f : Fr h0 h1) (hp : 0 < h1.next) (q : SL h0.next h1 out l 1 n) (hv : oneC v = true) (hn : n + 1 ≤ 4294967296) :
    ∃ h', aAppend C (t :: u :: ts) out (.slice (some ⟨h1.next, 0, some 1⟩) 1 1) (h1.alloc (.row [v] 1 true)) = some (.slice (some ⟨h1.next + 1, 0, some 1⟩) (n + 1) (n + 1), h') ∧ SL h0.next h' (.slice (some ⟨h1.next + 1, 0, some 1⟩) (n + 1) (n + 1)) (l ++ [v]) 1 (n + 1) ∧ Fr h0 h' ∧ h'.next = h1.next + 2 ∧ ∀ i, i < h1.next → blkOf out ≠ some i → h'.get i = h1.get i := by
  have q' : SL h0.next (h1.alloc (.row [v] 1 true)) out l 1 n := q.fr f.ok ((Fr.refl f.ok).alloc _)
  obtain ⟨h', e, q2, f2, n2, g2⟩ := append_at (ts := ts) ht (f.alloc (.row [v] 1 true)) (by simp) q' (x := .slice (some ⟨h1.next, 0, some 1⟩) 1 1) (new := [v]) (m := 0) rfl (by
    show obind (rowAt _ h1.next) (fun cells => take? cells 0 (1 * 1)) = _
    rw [rowAt_new]; rfl) (by simp [allOne_cons, hv, allOne_nil]) rfl hn
  exact ⟨h', e, q2, f2, by rw [n2]; simp, fun i hi hb => by rw [g2 i (by simp; omega) hb, Heap.get_alloc_ne _ _ (by omega)]⟩

def qty (k : Int) (b : Board) (hr : Int) : Int := if k = 1 then b.L else if k = 2 then b.F else if k = 3 then hr else 1
end Go.Am

/- The abstract machine, part 51: contracts: quantities of boards. -/
namespace Go.Am
open Go Go.Proofs
def qtys (t : Tar) (bs : List Board) (hs : List Int) : List Int := (bs.zip hs).map fun p => qty t.kind p.1 p.2
theorem take_snoc {α : Type} {l : List α} {i : Nat} {x : α} (h : l[i]? = some x) : l.take (i + 1) = l.take i ++ [x] := by
  rw [List.take_add_one, h]; rfl

/-- a bill in memory: a sheet, hours, the map of prices -/
structure IsBill (h : Heap) (v : Value) (s : Sheet) (hs : List Int) (m : Nat) : Prop where
  ex : ∃ a b c d, v = .agg ⟨[a, b, c, d, .map (some m)]⟩ ∧ IsSheet h a b c s ∧ LS h d hs ints 1
theorem IsBill.fr {h h' : Heap} {v : Value} {s : Sheet} {hs : List Int} {m : Nat} (q : IsBill h v s hs m) (hk : HOK h) (f : Fr h h') : IsBill h' v s hs m := by
  obtain ⟨a, b, c, d, e, q1, q2⟩ := q.ex
  exact ⟨a, b, c, d, e, q1.fr hk f, q2.fr hk f⟩

end Go.Am
