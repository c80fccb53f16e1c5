/-
  What the claims of layer 40 have in common: the library's variables as a world holds them. Conditions: none.
-/
import Derived.Test.YtgkpoopiamicnaaGreatDoorCards
import Derived.Test.YtgkpoopiamicnaaGreatDoorTie
import Derived.Test.YtgkpoopiamicnaaGreatDoorZbFrame
import Derived.Test.YtgkpoopiamicnaaGreatDoorZbad
import Derived.Deep.DeepLaidRun
namespace Go.Proofs.YtgkpoopiamicnaaGreatDoor
open Go.ChangeShapes Go.WideShapes Go.ChangeAt Go.RowKit

theorem own : ownKnob Tryz.prog.godebug = none := by kernel_rfl
theorem laidOut : laidOutB Tryz.prog = true := by kernel_rfl
theorem maxOk {W : World} (h : W.ShapedOpen Tryz.prog) : MaxOk W :=
  cell_of_shapedOpen_int (zero := #[.int .i64 0]) (t := 3) h (of_decide_eq_true (by kernel_rfl)) (by kernel_rfl) rfl (by kernel_rfl) (by kernel_rfl) Tryz.underlying3
/-- The cells of a table of integers, or of rows of them. -/
def flat1 : DataW Unit → List Value
  | .lit (.int k n) => [.int k n]
  | _ => []
def flat2 : DataW Unit → List Value
  | .agg ps => ps.flatMap fun
    | .agg qs => qs.flatMap flat1
    | d => flat1 d
  | _ => []
def putTab (t : DataW Unit) : Obj → Obj
  | .cells _ ty fr => .cells (flat2 t).toArray ty fr
  | o => o
/-- A world for the witness: the settled one, the tables holding what the row lists. -/
noncomputable def laidWorld (os : Os) (b1 b2 : Nat) (t1 t2 : DataW Unit) : World :=
  { World.holding Tryz.prog os ⟨#[], #[], []⟩ with heap := ((World.holding Tryz.prog os ⟨#[], #[], []⟩).heap.modify b1 (putTab t1)).modify b2 (putTab t2) }
noncomputable abbrev world40 (os : Os) : World := laidWorld os 2 1 Rows.laid_unicode_utf8_acceptRanges Rows.laid_unicode_utf8_first
theorem laid_met (os : Os) (args : Array Value) : laidMet Tryz.prog [("unicode/utf8.acceptRanges", Rows.laid_unicode_utf8_acceptRanges), ("unicode/utf8.first", Rows.laid_unicode_utf8_first)] ((world40 os).forCall (fun _ _ => 0) ⟨#[], args, []⟩).memory :=
  laidMet_of_run3 8 (by kernel_rfl) (by kernel_rfl) (by kernel_rfl)
theorem world_vars (os : Os) (args : Array Value) : ((world40 os).forCall (fun _ _ => 0) ⟨#[], args, []⟩).variablesB Tryz.prog = true := by kernel_rfl
theorem world_rest (os : Os) (args : Array Value) : (((world40 os).forCall (fun _ _ => 0) ⟨#[], args, []⟩).heap.toList.drop Tryz.prog.globals.size).take ((begin Tryz.prog (fun _ _ => 0) default).world.heap.size - Tryz.prog.globals.size) =
      (begin Tryz.prog (fun _ _ => 0) default).world.heap.toList.drop Tryz.prog.globals.size := by kernel_rfl
end Go.Proofs.YtgkpoopiamicnaaGreatDoor
