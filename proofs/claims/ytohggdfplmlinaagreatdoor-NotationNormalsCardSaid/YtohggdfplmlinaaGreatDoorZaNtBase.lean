/-
  What the claims of layer 04 have in common: the library's variables as a world holds them. Conditions: none.
-/
import Derived.Test.YtohggdfplmlinaaGreatDoorCards
import Derived.Test.YtohggdfplmlinaaGreatDoorTie
import Derived.Test.YtohggdfplmlinaaGreatDoorZaaa
import Derived.Test.YtohggdfplmlinaaGreatDoorZaac
import Derived.Deep.DeepLaidRun
namespace Go.Proofs.YtohggdfplmlinaaGreatDoor
open Go.ChangeShapes Go.WideShapes Go.ChangeAt Go.RowKit

theorem own : ownKnob Tryz.prog.godebug = none := by kernel_rfl
/-- The cells of a table of integers, or of rows of them. -/
def flat1 : DataW Unit → List Value
  | .lit (.int k n) => [.int k n]
  | _ => []
def flat2 : DataW Unit → List Value
  | .agg ps => ps.flatMap fun
    | .agg qs => qs.flatMap flat1
    | d => flat1 d
  | _ => []
def putTab (t : DataW Unit) : Obj → Obj
  | .cells _ ty fr => .cells (flat2 t).toArray ty fr
  | o => o
/-- A world for the witness: the settled one, the tables holding what the row lists. -/
noncomputable def laidWorld (os : Os) (b1 b2 : Nat) (t1 t2 : DataW Unit) : World :=
  { World.holding Tryz.prog os ⟨#[], #[], []⟩ with heap := ((World.holding Tryz.prog os ⟨#[], #[], []⟩).heap.modify b1 (putTab t1)).modify b2 (putTab t2) }
noncomputable abbrev world43 (os : Os) : World := laidWorld os 2 1 Rows.laid_unicode_utf8_acceptRanges Rows.laid_unicode_utf8_first
theorem laid_met (os : Os) (args : Array Value) : laidMet Tryz.prog [("unicode/utf8.acceptRanges", Rows.laid_unicode_utf8_acceptRanges), ("unicode/utf8.first", Rows.laid_unicode_utf8_first)] ((world43 os).forCall (fun _ _ => 0) ⟨#[], args, []⟩).memory :=
  laidMet_of_run3 8 (by kernel_rfl) (by kernel_rfl) (by kernel_rfl)
theorem world_vars (os : Os) (args : Array Value) : ((world43 os).forCall (fun _ _ => 0) ⟨#[], args, []⟩).variablesB Tryz.prog = true := by kernel_rfl
theorem world_rest (os : Os) (args : Array Value) : (((world43 os).forCall (fun _ _ => 0) ⟨#[], args, []⟩).heap.toList.drop Tryz.prog.globals.size).take ((begin Tryz.prog (fun _ _ => 0) default).world.heap.size - Tryz.prog.globals.size) =
      (begin Tryz.prog (fun _ _ => 0) default).world.heap.toList.drop Tryz.prog.globals.size := by kernel_rfl
theorem open_i64 {H : Type} {enc : TypeId × Value → H} {P : Program} {t : TypeId} {W : World} {base b0 : Nat} {v : Value} {d : DataW H} {ps : List MemPlace} (ht : P.underlying t = some (.int .i64)) (hval : Value.okWide P W .any b0 t v) (h : DataW.Trod enc P W base (fun _ => true) true t v d ps) :
    ∃ x : Int, v = .int .i64 x := by
  obtain ⟨n, rfl, rfl, _, _⟩ := open_int ht hval h
  exact ⟨n, rfl⟩
end Go.Proofs.YtohggdfplmlinaaGreatDoor
