/-
  No cell of these rows narrows 'for every input' (looked for: loops, veiled, ifaces, maps, wideKeys, modest, calm, conditions, laid).
  DERIVED. THE GIVEN ROWS OF THIS SEAT. 3 by the template 'for every input the law returns true; each argument reads behind the call as it read before'; 0 by the template 'total and deterministic' (their statements: YtlflfbnnjlkkcaaGreatTotals.lean).
  GIVEN WITH THE SEED: the statements are not yours to turn. If you find one false, say at which input.
  Laid BY PROGRAM, IN A SANDBOX (cutbox-rows.mjs): the forced cells as the released guide's own fill.sh prints them over the translation e14531e66f7d1cec… (all of the seat's roots in one cut). By AI agents, Wed Nov 11 2026. No macro, syntax, notation, axiom, sorry.
-/
import Derived.Test.YtlflfbnnjlkkcaaGreatChecked
import GoSem.Claim
import GoSem.ClaimJoined
import GoSem.ClaimMapViews
import Derived.JoinedTies
import Derived.KernelRfl
namespace Go.Proofs.YtlflfbnnjlkkcaaGreat
/- THE CELL 'sum', in the pinned program and in every row, IS THE sha256 OF THE DUMP (.gsa) THAT YtlflfbnnjlkkcaaGreatProg.lean LOADS. Nothing in Lean hashes anything: it is a label: what it is worth is what the hold of that sum in a sandbox is worth. -/
noncomputable def Tryz.pinned : Pinned := { name := "ytlflfbnnjlkkcaagreat", sum := "e14531e66f7d1cec203fb8f8d6bfaff3abb4936eee4182584b63f82b3d267247", checked := Tryz.checked }
namespace Rows
def none {H : Type} : Left H := { results := [], args := [] }

/-- 'mahlsticktop.TopOpened': WHATEVER THE INPUT: true; the input reads as it did. -/
def topOpenedSpec : ChangeSpec := { name := "topOpened", fn := fun _ => fun
  | [d] => { results := [.lit (.bool true)], args := [d] }
  | _ => none }
def topOpenedRow : OpenClaim := { program := "ytlflfbnnjlkkcaagreat", sum := "e14531e66f7d1cec203fb8f8d6bfaff3abb4936eee4182584b63f82b3d267247", func := "mahlstick/mahlsticktop.TopOpened", spec := "topOpened", unfollowed := true, recurses := true, plainKeys := false, apart := false }
def TopOpenedSaid : Prop := topOpenedRow.holds Tryz.pinned (OpenSpec.ofChange topOpenedSpec)

/-- ITS FALSE NEIGHBOUR: 'it returns false'. Refute it at one input. -/
def topOpenedWrong : ChangeSpec := { name := "topOpened", fn := fun _ => fun
  | [d] => { results := [.lit (.bool false)], args := [d] }
  | _ => none }
def TopOpenedWrongFalsely : Prop := topOpenedRow.holds Tryz.pinned (OpenSpec.ofChange topOpenedWrong)

/-- 'mahlsticktop.TopMixes': WHATEVER THE INPUT: true; the input reads as it did. -/
def topMixesSpec : ChangeSpec := { name := "topMixes", fn := fun _ => fun
  | [d1, d2, d3] => { results := [.lit (.bool true)], args := [d1, d2, d3] }
  | _ => none }
def topMixesRow : OpenClaim := { program := "ytlflfbnnjlkkcaagreat", sum := "e14531e66f7d1cec203fb8f8d6bfaff3abb4936eee4182584b63f82b3d267247", func := "mahlstick/mahlsticktop.TopMixes", spec := "topMixes", unfollowed := true, recurses := true, plainKeys := false, apart := false }
def TopMixesSaid : Prop := topMixesRow.holds Tryz.pinned (OpenSpec.ofChange topMixesSpec)

/-- ITS FALSE NEIGHBOUR: 'it returns false'. Refute it at one input. -/
def topMixesWrong : ChangeSpec := { name := "topMixes", fn := fun _ => fun
  | [d1, d2, d3] => { results := [.lit (.bool false)], args := [d1, d2, d3] }
  | _ => none }
def TopMixesWrongFalsely : Prop := topMixesRow.holds Tryz.pinned (OpenSpec.ofChange topMixesWrong)

/-- 'mahlsticktop.TopSeason': WHATEVER THE INPUT: true; the input reads as it did. -/
def topSeasonSpec : ChangeSpec := { name := "topSeason", fn := fun _ => fun
  | [d1, d2] => { results := [.lit (.bool true)], args := [d1, d2] }
  | _ => none }
def topSeasonRow : OpenClaim := { program := "ytlflfbnnjlkkcaagreat", sum := "e14531e66f7d1cec203fb8f8d6bfaff3abb4936eee4182584b63f82b3d267247", func := "mahlstick/mahlsticktop.TopSeason", spec := "topSeason", unfollowed := true, recurses := true, plainKeys := false, apart := false }
def TopSeasonSaid : Prop := topSeasonRow.holds Tryz.pinned (OpenSpec.ofChange topSeasonSpec)

/-- ITS FALSE NEIGHBOUR: 'it returns false'. Refute it at one input. -/
def topSeasonWrong : ChangeSpec := { name := "topSeason", fn := fun _ => fun
  | [d1, d2] => { results := [.lit (.bool false)], args := [d1, d2] }
  | _ => none }
def TopSeasonWrongFalsely : Prop := topSeasonRow.holds Tryz.pinned (OpenSpec.ofChange topSeasonWrong)

/- THE SECOND FORM. 'bulk': how many values and letters a reading holds, each counted each time it is reached (what is shared counts as often as it is met; a slice's spare places count too). A statement '..UptoSaid' is the law's where the arguments, and the package variables that the reading takes, are together of bulk at most 1048576: NARROWER than '..Said'. Prove '..Said' where nothing that the law and all that it calls make is longer than what came in: it says more and counts as full. Else prove '..UptoSaid'. A law counts once. -/
mutual
def uptoBulk {H : Type} : DataW H → Nat
  | .lit (.string bytes) => bytes.length + 1
  | .lit _ => 1
  | .nil => 1
  | .ptr d => uptoBulk d + 1
  | .slice elems spare => uptoBulkAll elems + uptoBulkAll spare + 1
  | .agg parts => uptoBulkAll parts + 1
  | .iface _ d => uptoBulk d + 1
  | .map entries => uptoBulkEntries entries + 1
  | .held _ => 1
def uptoBulkAll {H : Type} : List (DataW H) → Nat
  | [] => 0
  | d :: r => uptoBulk d + uptoBulkAll r
def uptoBulkEntries {H : Type} : List (Lit × DataW H) → Nat
  | [] => 0
  | x :: r => uptoBulkEntry x + uptoBulkEntries r
def uptoBulkEntry {H : Type} : Lit × DataW H → Nat
  | (.string bytes, d) => bytes.length + uptoBulk d + 1
  | (_, d) => uptoBulk d + 1
 end
def uptoSmall : (H : Type) → List (DataW H) → Bool := fun _ ds => decide (uptoBulkAll ds ≤ 1048576)
def OpenSpec.upto (s : _root_.Go.ChangeSpec) : _root_.Go.OpenSpec := { _root_.Go.OpenSpec.ofChange s with cond := some uptoSmall }

/-- 'mahlsticktop.TopOpened', WHERE WHAT IT READS IS OF BULK AT MOST 1048576: true; the input reads as it did. -/
def topOpenedUptoRow : OpenClaim := { program := "ytlflfbnnjlkkcaagreat", sum := "e14531e66f7d1cec203fb8f8d6bfaff3abb4936eee4182584b63f82b3d267247", func := "mahlstick/mahlsticktop.TopOpened", spec := "topOpened", unfollowed := true, recurses := true, plainKeys := false, apart := false, narrowed := true }
def TopOpenedUptoSaid : Prop := topOpenedUptoRow.holds Tryz.pinned (OpenSpec.upto topOpenedSpec)

/-- 'mahlsticktop.TopMixes', WHERE WHAT IT READS IS OF BULK AT MOST 1048576: true; the input reads as it did. -/
def topMixesUptoRow : OpenClaim := { program := "ytlflfbnnjlkkcaagreat", sum := "e14531e66f7d1cec203fb8f8d6bfaff3abb4936eee4182584b63f82b3d267247", func := "mahlstick/mahlsticktop.TopMixes", spec := "topMixes", unfollowed := true, recurses := true, plainKeys := false, apart := false, narrowed := true }
def TopMixesUptoSaid : Prop := topMixesUptoRow.holds Tryz.pinned (OpenSpec.upto topMixesSpec)

/-- 'mahlsticktop.TopSeason', WHERE WHAT IT READS IS OF BULK AT MOST 1048576: true; the input reads as it did. -/
def topSeasonUptoRow : OpenClaim := { program := "ytlflfbnnjlkkcaagreat", sum := "e14531e66f7d1cec203fb8f8d6bfaff3abb4936eee4182584b63f82b3d267247", func := "mahlstick/mahlsticktop.TopSeason", spec := "topSeason", unfollowed := true, recurses := true, plainKeys := false, apart := false, narrowed := true }
def TopSeasonUptoSaid : Prop := topSeasonUptoRow.holds Tryz.pinned (OpenSpec.upto topSeasonSpec)

end Rows
end Go.Proofs.YtlflfbnnjlkkcaaGreat
