/- The abstract machine, part 65: a world in which all tables lie. -/
import Derived.Test.YtfnllpibhjikgaaGreatDoorJD62
import Derived.LaidSub
import Derived.Lib.LaidTab
set_option linter.unusedSimpArgs false
set_option linter.unusedVariables false
namespace Go.Am
open Go Go.Proofs Go.ChangeShapes Go.WideShapes Go.RowKit Go.Proofs.YtfnllpibhjikgaaGreatDoor

/-- A START FOR THE WITNESS: what the door lays, and the pinned table -/
noncomputable def tabled (n : Nat) (os : Os) : World :=
  { World.doorLaid Tryz.prog n os with heap := (World.doorLaid Tryz.prog n os).heap.modify 2 fun | .cells _ t fz => .cells ⟨Pinned.utf8FirstZ.map fun (z : Nat) => Value.int .u8 (z : Int)⟩ t fz | o => o }
theorem tab_of {laid : List (String × DataW Unit)} (hp : (laid.all fun x => x.2.handleName?.isNone) = true) (hf : laid.filter (fun x => x.1 == "internal/strconv.uint64pow10") = [("internal/strconv.uint64pow10", Lib.tabData .u64 Lib.pow10Tab)]) (w : World) (h : laidMetH Tryz.prog laid w) :
    Lib.TabIs Tryz.prog w "internal/strconv.uint64pow10" .u64 Lib.pow10Tab := by
  rw [MakeChecks.laidMetH_plain _ _ _ hp] at h
  have h := laidMet.filter (fun x => x.1 == "internal/strconv.uint64pow10") h
  rw [hf] at h
  exact Lib.tabIs_of_head (g := 1) (t := 437) (e := 309) (n := 20) (by kernel_rfl) (by kernel_rfl) (by kernel_rfl) (by kernel_rfl) (by kernel_rfl) (by kernel_rfl) h
set_option maxRecDepth 100000 in
theorem tab_laid (w : World) (h : laidMetH Tryz.prog Rows.daybookNilRow.laid w) : Lib.TabIs Tryz.prog w "internal/strconv.uint64pow10" .u64 Lib.pow10Tab := tab_of (by kernel_rfl) (by kernel_rfl) w h
set_option maxRecDepth 100000 in
theorem tabled_met (os : Os) (args : Array Value) : laidMetH Tryz.prog Rows.daybookNilRow.laid ((tabled 1200 os).forCall (fun _ _ => 0) ⟨#[], args, []⟩).memory :=
  laidMetH_of_parts3 (fuel := 8) (laidMet_of_run' 8 (by kernel_rfl) (by kernel_rfl)) (by kernel_rfl) (by kernel_rfl)
set_option maxRecDepth 100000 in
theorem tabled_shaped (os : Os) (args : Array Value) : ((tabled 1200 os).forCall (fun _ _ => 0) ⟨#[], args, []⟩).Shaped Tryz.prog := World.shaped_of_RefB (by kernel_rfl) (by kernel_rfl)
end Go.Am
